/- Draws. Cut down, by a program of mine, from what print.sh printed for this seat. -/
import Derived.Test.YtpmfghbjkampkaaDoorQ4
namespace Go.Proofs.YtpmfghbjkampkaaDoor.PFnValidLog
open Go.RowKit Go.Proofs.YtpmfghbjkampkaaDoorW.PrintWords Go.Proofs.YtpmfghbjkampkaaDoorW.PrintLast Go.Proofs.YtpmfghbjkampkaaDoorW.PrintMore
attribute [local go_sem] max2_int min2_int max_two min_two max_three min_three max_four min_four
set_option linter.unusedVariables false
set_option linter.unusedSimpArgs false
/-! spec_PlanStarts -/
def spec_PlanStarts.f (k : Nat) (l0 : List (S41)) (l1 : List Int) (a2 : Int) : Option (List Int) := (spec_validGraph.f k l0).bind fun t346 => (if t346 = true then ((spec_validRoom.f k l1).bind fun t347 => (if t347 = true then ((spec_inRange.f a2 1 4).bind fun t348 => (if t348 = true then ((spec_plan.f k l0 l1 a2).bind fun t349 => (some t349)) else (some ([] : List Int)))) else (some ([] : List Int)))) else (some ([] : List Int)))
set_option maxHeartbeats 8000000 in
set_option maxRecDepth 100000 in
theorem spec_PlanStarts.calls (k : Nat) (A0 : Option Addr) (c0 : Nat) (l0 : List (S41)) (A1 : Option Addr) (c1 : Nat) (l1 : List Int) (a2 : Int) (r : List Int) (w : World) (hr0 : Kd.C k41 w A0 l0.length l0) (hc0 : l0.length ≤ c0) (hr1 : Kd.C (Kd.int .i64) w A1 l1.length l1) (hc1 : l1.length ≤ c1) (h : spec_PlanStarts.f k l0 l1 a2 = some r) :
  Calls Tryd.prog 17 #[.slice A0 l0.length c0, .slice A1 l1.length c1, .int .i64 a2] w fun e w' => ∃ v0_ : Value, e = .returned (v0_) ∧ Kd.R (Kd.int .i64) 3 w' w.heap.size (fun _ => True) v0_ r ∧ Below w.heap.size w w' := by
 have HR0 := mk0 hr0
 have HC0 := mk0 hc0
 clear hr0 hc0
 have HR1 := mk0 hr1
 have HC1 := mk0 hc1
 clear hr1 hc1
 have HB := mk0 (Below.refl w.heap.size w)
 have H : ((spec_validGraph.f k l0).bind fun t346 => (if t346 = true then ((spec_validRoom.f k l1).bind fun t347 => (if t347 = true then ((spec_inRange.f a2 1 4).bind fun t348 => (if t348 = true then ((spec_plan.f k l0 l1 a2).bind fun t349 => (some t349)) else (some ([] : List Int)))) else (some ([] : List Int)))) else (some ([] : List Int)))) = some r := h
 clear h
 replace H := bE_ H
 obtain ⟨t346, A40, H⟩ := H
 have A4 := mk0 A40
 clear A40
 by_cases c5 : t346 = true
 ·
  subst c5
  rw [if_pos rfl] at H
  replace H := bE_ H
  obtain ⟨t347, A60, H⟩ := H
  have A6 := mk0 A60
  clear A60
  by_cases c7 : t347 = true
  ·
   subst c7
   rw [if_pos rfl] at H
   replace H := bE_ H
   obtain ⟨t348, A80, H⟩ := H
   have A8 := mk0 A80
   clear A80
   by_cases c9 : t348 = true
   ·
    subst c9
    rw [if_pos rfl] at H
    replace H := bE_ H
    obtain ⟨t349, A100, H⟩ := H
    have A10 := mk0 A100
    clear A100
    obtain rfl := Option.some.inj H
    go_enter Tryd.func17, Tryd.ntmps17
    go_wp2_with (first | ((with_reducible refine gate_callee (f := 40) rfl ?_); refine goesL_ (some 8) rfl rfl Tryd.func40 (by kernel_rfl) rfl #[.slice A0 l0.length c0] rfl (by (try simp only [List.map_toArray, List.map_cons, List.map_nil]); first | done | rfl | (simp only [List.length_drop, List.length_take]; rfl)) ?_; (with_reducible refine (spec_validGraph.calls k _ _ l0 true _ ?side1 ?side2 A4.out).mono ?_); (case side1 => repeat (first | exact HR0.out | (with_reducible first | refine Ca_ ?_ _ | refine Cn_ ?_ _ | refine Cd_ ?_))); (case side2 => exact HC0.out); rintro e w11 ⟨rfl, hb⟩; refine ⟨_, rfl, ?_⟩; replace HB := mk0 (below_step (by with_reducible repeat (first | exact HB.out | apply ba_ | apply bn_ | apply bd_)) hb); clear hb) | (go_at_call 41; (with_reducible refine (spec_validRoom.calls k _ _ l1 true _ ?side1 ?side2 A6.out).mono ?_); (case side1 => repeat (first | exact (Kd.C_below HR1.out HB.out) | (with_reducible first | refine Ca_ ?_ _ | refine Cn_ ?_ _ | refine Cd_ ?_))); (case side2 => exact HC1.out); rintro e w' ⟨rfl, ⟨nd, rfl⟩⟩) | (go_at_call 42; (with_reducible refine (spec_inRange.calls a2 1 4 true _ A8.out).mono ?_); rintro e w' ⟨rfl, ⟨nd, rfl⟩⟩) | ((with_reducible refine gate_callee (f := 44) rfl ?_); refine goesL_ (some 23) rfl rfl Tryd.func44 (by kernel_rfl) rfl #[.slice A0 l0.length c0, .slice A1 l1.length c1, .int .i64 a2] rfl (by (try simp only [List.map_toArray, List.map_cons, List.map_nil]); first | done | rfl | (simp only [List.length_drop, List.length_take]; rfl)) ?_; (with_reducible refine (spec_plan.calls k _ _ l0 _ _ l1 a2 t349 _ ?side1 ?side2 ?side3 ?side4 A10.out).mono ?_); (case side1 => repeat (first | exact (Kd.C_below HR0.out (by with_reducible repeat (first | exact HB.out | apply ba_ | apply bn_ | apply bd_))) | (with_reducible first | refine Ca_ ?_ _ | refine Cn_ ?_ _ | refine Cd_ ?_))); (case side2 => exact HC0.out); (case side3 => repeat (first | exact (Kd.C_below HR1.out (by with_reducible repeat (first | exact HB.out | apply ba_ | apply bn_ | apply bd_))) | (with_reducible first | refine Ca_ ?_ _ | refine Cn_ ?_ _ | refine Cd_ ?_))); (case side4 => exact HC1.out); rintro e w12 ⟨v350, rfl, ho0, hb⟩; refine ⟨_, rfl, ?_⟩; have HO351 := mk0 (Kd.R_lower ho0 (below_size (by with_reducible repeat (first | exact HB.out | apply ba_ | apply bn_ | apply bd_)))); replace HB := mk0 (below_step (by with_reducible repeat (first | exact HB.out | apply ba_ | apply bn_ | apply bd_)) hb); clear hb ho0))
    go_ret
    exact ⟨_, by first | rfl | (simp [errW_none, errW_some] <;> rfl) | (simp [*, errW_none, errW_some] <;> rfl), by (with_reducible repeat (first | apply Ra_ | apply Rn_ | apply Rd_)); exact HO351.out, by with_reducible repeat (first | exact HB.out | apply ba_ | apply bn_ | apply bd_)⟩
   ·
    replace c9 := Bool.eq_false_iff.mpr c9
    subst c9
    rw [if_neg (show ¬ (false = true) by decide)] at H
    obtain rfl := Option.some.inj H
    go_enter Tryd.func17, Tryd.ntmps17
    go_wp2_with (first | ((with_reducible refine gate_callee (f := 40) rfl ?_); refine goesL_ (some 8) rfl rfl Tryd.func40 (by kernel_rfl) rfl #[.slice A0 l0.length c0] rfl (by (try simp only [List.map_toArray, List.map_cons, List.map_nil]); first | done | rfl | (simp only [List.length_drop, List.length_take]; rfl)) ?_; (with_reducible refine (spec_validGraph.calls k _ _ l0 true _ ?side1 ?side2 A4.out).mono ?_); (case side1 => repeat (first | exact HR0.out | (with_reducible first | refine Ca_ ?_ _ | refine Cn_ ?_ _ | refine Cd_ ?_))); (case side2 => exact HC0.out); rintro e w13 ⟨rfl, hb⟩; refine ⟨_, rfl, ?_⟩; replace HB := mk0 (below_step (by with_reducible repeat (first | exact HB.out | apply ba_ | apply bn_ | apply bd_)) hb); clear hb) | (go_at_call 41; (with_reducible refine (spec_validRoom.calls k _ _ l1 true _ ?side1 ?side2 A6.out).mono ?_); (case side1 => repeat (first | exact (Kd.C_below HR1.out HB.out) | (with_reducible first | refine Ca_ ?_ _ | refine Cn_ ?_ _ | refine Cd_ ?_))); (case side2 => exact HC1.out); rintro e w' ⟨rfl, ⟨nd, rfl⟩⟩) | (go_at_call 42; (with_reducible refine (spec_inRange.calls a2 1 4 false _ A8.out).mono ?_); rintro e w' ⟨rfl, ⟨nd, rfl⟩⟩))
    go_ret
    exact ⟨_, by first | rfl | (simp [errW_none, errW_some] <;> rfl) | (simp [*, errW_none, errW_some] <;> rfl), by first | exact Kd.R_nil _ _ _ _ _ | exact Kd.N_nil _ _ _ _ _ | exact Kd.V_nil _ _ _ _ _ | exact Kd.Q_nil _ _ _ _ _ | exact Kd.S_nil _ _ _ _ _, by with_reducible repeat (first | exact HB.out | apply ba_ | apply bn_ | apply bd_)⟩
  ·
   replace c7 := Bool.eq_false_iff.mpr c7
   subst c7
   rw [if_neg (show ¬ (false = true) by decide)] at H
   obtain rfl := Option.some.inj H
   go_enter Tryd.func17, Tryd.ntmps17
   go_wp2_with (first | ((with_reducible refine gate_callee (f := 40) rfl ?_); refine goesL_ (some 8) rfl rfl Tryd.func40 (by kernel_rfl) rfl #[.slice A0 l0.length c0] rfl (by (try simp only [List.map_toArray, List.map_cons, List.map_nil]); first | done | rfl | (simp only [List.length_drop, List.length_take]; rfl)) ?_; (with_reducible refine (spec_validGraph.calls k _ _ l0 true _ ?side1 ?side2 A4.out).mono ?_); (case side1 => repeat (first | exact HR0.out | (with_reducible first | refine Ca_ ?_ _ | refine Cn_ ?_ _ | refine Cd_ ?_))); (case side2 => exact HC0.out); rintro e w14 ⟨rfl, hb⟩; refine ⟨_, rfl, ?_⟩; replace HB := mk0 (below_step (by with_reducible repeat (first | exact HB.out | apply ba_ | apply bn_ | apply bd_)) hb); clear hb) | (go_at_call 41; (with_reducible refine (spec_validRoom.calls k _ _ l1 false _ ?side1 ?side2 A6.out).mono ?_); (case side1 => repeat (first | exact (Kd.C_below HR1.out HB.out) | (with_reducible first | refine Ca_ ?_ _ | refine Cn_ ?_ _ | refine Cd_ ?_))); (case side2 => exact HC1.out); rintro e w' ⟨rfl, ⟨nd, rfl⟩⟩))
   go_ret
   exact ⟨_, by first | rfl | (simp [errW_none, errW_some] <;> rfl) | (simp [*, errW_none, errW_some] <;> rfl), by first | exact Kd.R_nil _ _ _ _ _ | exact Kd.N_nil _ _ _ _ _ | exact Kd.V_nil _ _ _ _ _ | exact Kd.Q_nil _ _ _ _ _ | exact Kd.S_nil _ _ _ _ _, by with_reducible repeat (first | exact HB.out | apply ba_ | apply bn_ | apply bd_)⟩
 ·
  replace c5 := Bool.eq_false_iff.mpr c5
  subst c5
  rw [if_neg (show ¬ (false = true) by decide)] at H
  obtain rfl := Option.some.inj H
  go_enter Tryd.func17, Tryd.ntmps17
  go_wp2_with (first | ((with_reducible refine gate_callee (f := 40) rfl ?_); refine goesL_ (some 8) rfl rfl Tryd.func40 (by kernel_rfl) rfl #[.slice A0 l0.length c0] rfl (by (try simp only [List.map_toArray, List.map_cons, List.map_nil]); first | done | rfl | (simp only [List.length_drop, List.length_take]; rfl)) ?_; (with_reducible refine (spec_validGraph.calls k _ _ l0 false _ ?side1 ?side2 A4.out).mono ?_); (case side1 => repeat (first | exact HR0.out | (with_reducible first | refine Ca_ ?_ _ | refine Cn_ ?_ _ | refine Cd_ ?_))); (case side2 => exact HC0.out); rintro e w15 ⟨rfl, hb⟩; refine ⟨_, rfl, ?_⟩; replace HB := mk0 (below_step (by with_reducible repeat (first | exact HB.out | apply ba_ | apply bn_ | apply bd_)) hb); clear hb))
  go_ret
  exact ⟨_, by first | rfl | (simp [errW_none, errW_some] <;> rfl) | (simp [*, errW_none, errW_some] <;> rfl), by first | exact Kd.R_nil _ _ _ _ _ | exact Kd.N_nil _ _ _ _ _ | exact Kd.V_nil _ _ _ _ _ | exact Kd.Q_nil _ _ _ _ _ | exact Kd.S_nil _ _ _ _ _, by with_reducible repeat (first | exact HB.out | apply ba_ | apply bn_ | apply bd_)⟩
/-! spec_someStarts -/
mutual
def spec_someStarts.l0 : Nat → List Int → Int → List Int → Int → List Int → Int → Option (List Int × Int × List Int × Int)
 | 0, _, _, _, _, _, _ => none
 | k + 1, x7, x8, x9, x10, x1000, x1001 => if x10 > 0 then (spec_someStarts.j1 k x7 x8 x9 x10 (decide ((x9.length : Int) > 0)) x1000 x1001) else (spec_someStarts.j1 k x7 x8 x9 x10 false x1000 x1001)
def spec_someStarts.j1 : Nat → List Int → Int → List Int → Int → Bool → List Int → Int → Option (List Int × Int × List Int × Int)
 | 0, _, _, _, _, _, _, _ => none
 | k + 1, x7, x8, x9, x10, x28, x1000, x1001 => if x28 = true then ((spec_reader_pick.f k x1000 x1001 (x9.length : Int)).bind fun bt390 => (if 0 ≤ bt390.1 then (if bt390.1 < (x9.length : Int) then ((spec_reader_one.f k x1000 bt390.2 (([0, 1, 5, (-1), 40] : List Int))).bind fun bt396 => (spec_someStarts.l0 k x7 x8 (x9.set (bt390.1 : Int).toNat (wrap64 ((rd x9 bt390.1) + bt396.1))) (wrap64 (x10 - 1)) x1000 bt396.2)) else (none)) else (none))) else (some (x7, x8, x9, x1001))
end
def spec_someStarts.f (k : Nat) (s0_0 : List Int) (s0_1 : Int) (l1 : List (S41)) : Option (List Int × Int × List Int × Int) := (spec_someRoom.f k s0_0 s0_1).bind fun bt379 => ((spec_someWorkers.f k s0_0 bt379.2).bind fun bt383 => ((spec_PlanStarts.f k l1 bt379.1 bt383.1).bind fun t385 => ((spec_reader_pick.f k s0_0 bt383.2 3).bind fun bt388 => (spec_someStarts.l0 k bt379.1 bt383.1 t385 bt388.1 s0_0 bt388.2))))
def spec_someStarts.T8 : Bool × List (List Nat × List Nat) := (true, [([], []), ([], []), ([], []), ([], []), ([2, 3], [2, 3]), ([4], [4]), ([], []), ([], []), ([6, 7], [6, 7]), ([5, 8], [5, 8]), ([0, 1, 0, 1, 2, 3, 4, 5, 6, 7, 8, 9], [0, 1]), ([10, 9, 8, 0, 1, 2, 3, 4, 5, 6, 7, 8, 9], [9, 10])])
def spec_someStarts.B8 : List Nat := [0, 0, 0, 0, 12, 28, 0, 0, 192, 508, 1023, 2047]
theorem spec_someStarts.tab8 : rtab .any (opsOf Tryd.f95 8) = spec_someStarts.T8 := by kernel_rfl
theorem spec_someStarts.bits8 : waitsOk spec_someStarts.T8.2 spec_someStarts.B8 = true := by kernel_rfl
set_option maxHeartbeats 8000000 in
set_option maxRecDepth 100000 in
theorem spec_someStarts.calls (k : Nat) (g : Nat) (s0_0 : List Int) (s0_1 : Int) (A1 : Option Addr) (c1 : Nat) (l1 : List (S41)) (r1 : List Int) (r2 : Int) (r3 : List Int) (r4 : Int) (w0 w : World) (hI : IsS71 w0 w g s0_0 s0_1) (hB : Below w0.heap.size w0 w) (hr1 : ∀ W_, KeepBut w W_ g none → Kd.C k41 W_ A1 l1.length l1) (hc1 : l1.length ≤ c1) (h : spec_someStarts.f k s0_0 s0_1 l1 = some (r1, r2, r3, r4)) :
  Calls Tryd.prog 95 #[.pointer (some ⟨g, 0, none⟩), .slice A1 l1.length c1] w fun e w' => ∃ v0_ v2_ : Value, e = .returned (.tuple #[v0_, .int .i64 r2, v2_]) ∧ Kd.Q (Kd.int .i64) 3 w' w.heap.size (fun k_ => some k_ ≠ (v2_ : Value).ownBlock) v0_ r1 ∧ Kd.R (Kd.int .i64) 3 w' w.heap.size (fun k_ => some k_ ≠ (v0_ : Value).ownBlock) v2_ r3 ∧ IsS71 w0 w' g s0_0 r4 ∧ Below w0.heap.size w0 w' ∧ KeepBut w w' g none := by
 have HR1 := mk0 hr1
 have HC1 := mk0 hc1
 clear hr1 hc1
 have HI0 := mk0 hI
 have HK := mk0 (KeepBut.refl w g none)
 have HL := mk0 hB.size
 clear hI
 have HW0 := mk0 hB.size
 have HB := mk0 hB
 clear hB
 have H : ((spec_someRoom.f k s0_0 s0_1).bind fun bt379 => ((spec_someWorkers.f k s0_0 bt379.2).bind fun bt383 => ((spec_PlanStarts.f k l1 bt379.1 bt383.1).bind fun t385 => ((spec_reader_pick.f k s0_0 bt383.2 3).bind fun bt388 => (spec_someStarts.l0 k bt379.1 bt383.1 t385 bt388.1 s0_0 bt388.2))))) = some (r1, r2, r3, r4) := h
 clear h
 replace H := bE_ H
 obtain ⟨⟨t379, t382⟩, A30, H⟩ := H
 have A3 := mk0 A30
 clear A30
 replace H := bE_ H
 obtain ⟨⟨t383, t384⟩, A40, H⟩ := H
 have A4 := mk0 A40
 clear A40
 replace H := bE_ H
 obtain ⟨t385, A50, H⟩ := H
 have A5 := mk0 A50
 clear A50
 replace H := bE_ H
 obtain ⟨⟨t388, t389⟩, A60, H⟩ := H
 have A6 := mk0 A60
 clear A60
 have H' := mk0 H
 clear H
 go_enter Tryd.func95, Tryd.ntmps95
 go_wp2_with (first | ((with_reducible refine gate_callee (f := 53) rfl ?_); refine goesL_ (some 13) rfl rfl Tryd.func53 (by kernel_rfl) rfl #[.pointer (some ⟨g, 0, none⟩)] rfl (by (try simp only [List.map_toArray, List.map_cons, List.map_nil]); first | done | rfl | (simp only [List.length_drop, List.length_take]; rfl)) ?_; (with_reducible refine (spec_someRoom.calls k g s0_0 s0_1 t379 t382 w0 _ ?side1 ?side2 A3.out).mono ?_); (case side1 => with_reducible repeat (first | exact HI0.out | apply ia_ | apply in_ | apply id_ | apply is_)); (case side2 => with_reducible repeat (first | exact HB.out | apply ba_ | apply bn_ | apply bd_ | refine below_set ?_ (IsS71.ge HI0.out))); rintro e w7 ⟨v380, rfl, ho0, hi, hb, hk⟩; refine ⟨_, rfl, ?_⟩; have HO381 := mk0 (Kd.Q_lower ho0 (keep_size (w := w) (g := g) (row := none) (by with_reducible repeat (first | exact HK.out | apply ks_ | apply kn_ | apply kd_ | apply ka_)))); replace HK := mk0 (KeepBut.trans (by with_reducible repeat (first | exact HK.out | apply ks_ | apply kn_ | apply kd_ | apply ka_)) hk (.inl rfl)); replace HB := mk0 (hb); replace HI0 := mk0 (hi); clear hb hk hi ho0) | ((with_reducible refine gate_callee (f := 64) rfl ?_); refine goesL_ (some 15) rfl rfl Tryd.func64 (by kernel_rfl) rfl #[.pointer (some ⟨g, 0, none⟩)] rfl (by (try simp only [List.map_toArray, List.map_cons, List.map_nil]); first | done | rfl | (simp only [List.length_drop, List.length_take]; rfl)) ?_; (with_reducible refine (spec_someWorkers.calls k g s0_0 t382 t383 t384 w0 _ ?side1 ?side2 A4.out).mono ?_); (case side1 => with_reducible repeat (first | exact HI0.out | apply ia_ | apply in_ | apply id_ | apply is_)); (case side2 => with_reducible repeat (first | exact HB.out | apply ba_ | apply bn_ | apply bd_ | refine below_set ?_ (IsS71.ge HI0.out))); rintro e w8 ⟨rfl, hi, hb, hk⟩; refine ⟨_, rfl, ?_⟩; replace HO381 := mk0 (Kd.Q_mono (Kd.Q_keep (IsS71.apartQ (show IsS71 w0 _ g s0_0 t382 from by with_reducible repeat (first | exact HI0.out | apply ia_ | apply in_ | apply id_ | apply is_)) (by (with_reducible repeat (first | apply Qa_ | apply Qn_ | apply Qd_)); exact HO381.out) (by decide)) hk (fun _ h => h.2)) (fun _ h => h.1)); replace HK := mk0 (KeepBut.trans (by with_reducible repeat (first | exact HK.out | apply ks_ | apply kn_ | apply kd_ | apply ka_)) hk (.inl rfl)); replace HB := mk0 (hb); replace HI0 := mk0 (hi); clear hb hk hi; obtain ⟨Ao9, co9, eo9, _⟩ := Kd.Q_slice HO381.out; subst eo9) | ((with_reducible refine gate_callee (f := 17) rfl ?_); refine goesL_ (some 19) rfl rfl Tryd.func17 (by kernel_rfl) rfl #[.slice A1 l1.length c1, .slice Ao9 t379.length co9, .int .i64 t383] rfl (by (try simp only [List.map_toArray, List.map_cons, List.map_nil]); first | done | rfl | (simp only [List.length_drop, List.length_take]; rfl)) ?_; (with_reducible refine (spec_PlanStarts.calls k _ _ l1 _ _ t379 t383 t385 _ ?side1 ?side2 ?side3 ?side4 A5.out).mono ?_); (case side1 => exact Kd.C_foot_now HR1.out (by with_reducible repeat (first | exact HK.out | apply ks_ | apply kn_ | apply kd_ | apply ka_))); (case side2 => exact HC1.out); (case side3 => repeat (first | exact (Kd.Q_reads' HO381.out).2.2 | (with_reducible first | refine Ca_ ?_ _ | refine Cn_ ?_ _ | refine Cd_ ?_))); (case side4 => exact (Kd.Q_reads' HO381.out).2.1); rintro e w10 ⟨v386, rfl, ho0, hb⟩; refine ⟨_, rfl, ?_⟩; have HO387 := mk0 (Kd.R_lower (Kd.R_new' ho0 (Kd.Q_lt (by (with_reducible repeat (first | apply Qa_ | apply Qn_ | apply Qd_)); exact HO381.out))) (keep_size (w := w) (g := g) (row := none) (by with_reducible repeat (first | exact HK.out | apply ks_ | apply kn_ | apply kd_ | apply ka_)))); replace HO381 := mk0 (Kd.Q_elder' (by (with_reducible repeat (first | apply Qa_ | apply Qn_ | apply Qd_)); exact HO381.out) (Kd.R_base ho0) hb); replace HK := mk0 (KeepBut.trans (by with_reducible repeat (first | exact HK.out | apply ks_ | apply kn_ | apply kd_ | apply ka_)) (KeepBut.of_below hb g none) (.inl rfl)); replace HB := mk0 (below_step (by with_reducible repeat (first | exact HB.out | apply ba_ | apply bn_ | apply bd_ | refine below_set ?_ (IsS71.ge HI0.out))) hb); replace HI0 := mk0 (IsS71.below (by with_reducible repeat (first | exact HI0.out | apply ia_ | apply in_ | apply id_ | apply is_)) hb); clear hb ho0) | ((with_reducible refine gate_callee (f := 56) rfl ?_); refine goesL_ (some 21) rfl rfl Tryd.func56 (by kernel_rfl) rfl #[.pointer (some ⟨g, 0, none⟩), .int .i64 3] rfl (by (try simp only [List.map_toArray, List.map_cons, List.map_nil]); first | done | rfl | (simp only [List.length_drop, List.length_take]; rfl)) ?_; (with_reducible refine (spec_reader_pick.calls k g s0_0 t384 3 t388 t389 w0 _ ?side1 ?side2 A6.out).mono ?_); (case side1 => with_reducible repeat (first | exact HI0.out | apply ia_ | apply in_ | apply id_ | apply is_)); (case side2 => with_reducible repeat (first | exact HB.out | apply ba_ | apply bn_ | apply bd_ | refine below_set ?_ (IsS71.ge HI0.out))); rintro e w11 ⟨rfl, hi, hb, hk⟩; refine ⟨_, rfl, ?_⟩; replace HO381 := mk0 (Kd.Q_mono (Kd.Q_keep (IsS71.apartQ (show IsS71 w0 _ g s0_0 t384 from by with_reducible repeat (first | exact HI0.out | apply ia_ | apply in_ | apply id_ | apply is_)) (by (with_reducible repeat (first | apply Qa_ | apply Qn_ | apply Qd_)); exact HO381.out) (by decide)) hk (fun _ h => h.2)) (fun _ h => h.1)); replace HO387 := mk0 (Kd.R_mono (Kd.R_keep (IsS71.apart (show IsS71 w0 _ g s0_0 t384 from by with_reducible repeat (first | exact HI0.out | apply ia_ | apply in_ | apply id_ | apply is_)) (by (with_reducible repeat (first | apply Ra_ | apply Rn_ | apply Rd_)); exact HO387.out) (by decide)) hk (fun _ h => h.2)) (fun _ h => h.1)); replace HK := mk0 (KeepBut.trans (by with_reducible repeat (first | exact HK.out | apply ks_ | apply kn_ | apply kd_ | apply ka_)) hk (.inl rfl)); replace HB := mk0 (hb); replace HI0 := mk0 (hi); clear hb hk hi))
 go_loopg [10] k (fun kq v10 w' => ∃ (x9_1 : List Int) (x10_1 : Int) (x1001_1 : Int), v10 = .int .i64 x10_1 ∧ Aside0 (spec_someStarts.l0 kq t379 t383 x9_1 x10_1 s0_0 x1001_1 = some (r1, r2, r3, r4)) ∧ Aside0 (kq ≤ k) ∧ Aside0 (Kd.Q (Kd.int .i64) 3 w' w.heap.size (fun k_ => some k_ ≠ (v386 : Value).ownBlock) (.slice Ao9 t379.length co9) t379) ∧ Aside0 (Kd.R (Kd.int .i64) 3 w' w.heap.size (fun k_ => some k_ ≠ ((.slice Ao9 t379.length co9) : Value).ownBlock) v386 x9_1) ∧ Aside0 (IsS71 w0 w' g s0_0 x1001_1) ∧ Aside0 (KeepBut w w' g none) ∧ Aside0 (Below w0.heap.size w0 w'))
 case atStart => exact ⟨(t385), (t388), (t389), (by first | rfl | (simp; done) | (simp [*]; done)), H', ⟨Nat.le_refl _⟩, ⟨by (with_reducible repeat (first | apply Qa_ | apply Qn_ | apply Qd_)); exact Kd.Q_mono HO381.out (fun _ hk => hk.2)⟩, ⟨by (with_reducible repeat (first | apply Ra_ | apply Rn_ | apply Rd_)); exact Kd.R_mono HO387.out (fun _ hk => hk.2)⟩, ⟨by with_reducible repeat (first | exact HI0.out | apply ia_ | apply in_ | apply id_ | apply is_)⟩, ⟨by with_reducible repeat (first | exact HK.out | apply ks_ | apply kn_ | apply kd_ | apply ka_)⟩, ⟨by with_reducible repeat (first | exact HB.out | apply ba_ | apply bn_ | apply bd_ | refine below_set ?_ (IsS71.ge HI0.out))⟩⟩
 case round =>
  clear H'
  try clear c1
  try clear p2
  try clear c5
  try clear c6
  try clear c9
  obtain ⟨x9_1, x10_1, x1001_1, rfl, HA, HK1, HO_7, HO_9, HI0, HK, HB⟩ := hrel
  cases gk with
  | zero => exact absurd HA.out (by simp [spec_someStarts.l0])
  | succ k1 =>
   have H := HA.out
   clear HA
   simp only [spec_someStarts.l0] at H
   have HC12 := mk0 H
   clear H
   go_upto_region 5 with (fail)
   go_cut [28] (fun v28 wc => ∃ (kq : Nat) (x28_11 : Bool), v28 = .bool x28_11 ∧ Aside0 (spec_someStarts.j1 kq t379 t383 x9_1 x10_1 x28_11 s0_0 x1001_1 = some (r1, r2, r3, r4)) ∧ Aside0 (kq ≤ k1) ∧ Aside0 (Kd.Q (Kd.int .i64) 3 wc w.heap.size (fun k_ => some k_ ≠ (v386 : Value).ownBlock) (.slice Ao9 t379.length co9) t379) ∧ Aside0 (Kd.R (Kd.int .i64) 3 wc w.heap.size (fun k_ => some k_ ≠ ((.slice Ao9 t379.length co9) : Value).ownBlock) v386 x9_1) ∧ Aside0 (IsS71 w0 wc g s0_0 x1001_1) ∧ Aside0 (KeepBut w wc g none) ∧ Aside0 (Below w0.heap.size w0 wc))
   case first =>
    have H := HC12.out
    clear HC12
    by_cases c13 : x10_1 > 0
    ·
     rw [if_pos c13] at H
     have c13b0 : decide (0 < x10_1) = true := decide_eq_true c13
     clear c13
     (first | rw [c13b0] | (simp only [i64_w, i32_w]; rw [c13b0]) | skip)
     have H' := mk0 H
     clear H
     obtain ⟨Ao14, co14, eo14⟩ := Kd.R_slice HO_9.out
     subst eo14
     go_wp2
     go_meet
     case rel => exact ⟨_, (decide ((x9_1.length : Int) > 0)), (by first | rfl | (simp; done) | (simp [*]; done)), H', ⟨by have := HK1.out; first | omega | exact Nat.le_refl _⟩, ⟨by (with_reducible repeat (first | apply Qa_ | apply Qn_ | apply Qd_)); exact HO_7.out⟩, ⟨by (with_reducible repeat (first | apply Ra_ | apply Rn_ | apply Rd_)); exact HO_9.out⟩, ⟨by with_reducible repeat (first | exact HI0.out | apply ia_ | apply in_ | apply id_ | apply is_)⟩, ⟨by with_reducible repeat (first | exact HK.out | apply ks_ | apply kn_ | apply kd_ | apply ka_)⟩, ⟨by with_reducible repeat (first | exact HB.out | apply ba_ | apply bn_ | apply bd_ | refine below_set ?_ (IsS71.ge HI0.out))⟩⟩
    ·
     rw [if_neg c13] at H
     have c13b0 : decide (0 < x10_1) = false := decide_eq_false c13
     clear c13
     (first | rw [c13b0] | (simp only [i64_w, i32_w]; rw [c13b0]) | skip)
     have H' := mk0 H
     clear H
     go_wp2
     go_meet
     case rel => exact ⟨_, (false), (by first | rfl | (simp; done) | (simp [*]; done)), H', ⟨by have := HK1.out; first | omega | exact Nat.le_refl _⟩, ⟨by (with_reducible repeat (first | apply Qa_ | apply Qn_ | apply Qd_)); exact HO_7.out⟩, ⟨by (with_reducible repeat (first | apply Ra_ | apply Rn_ | apply Rd_)); exact HO_9.out⟩, ⟨by with_reducible repeat (first | exact HI0.out | apply ia_ | apply in_ | apply id_ | apply is_)⟩, ⟨by with_reducible repeat (first | exact HK.out | apply ks_ | apply kn_ | apply kd_ | apply ka_)⟩, ⟨by with_reducible repeat (first | exact HB.out | apply ba_ | apply bn_ | apply bd_ | refine below_set ?_ (IsS71.ge HI0.out))⟩⟩
   case rest =>
    clear HC12
    try clear c1
    try clear p2
    try clear c5
    try clear c6
    try clear c9
    try clear c13
    try clear c13b0
    try clear p2
    obtain ⟨kq, x28_11, rfl, HA, HJ11, HO_7, HO_9, HI0, HK, HB⟩ := hcut
    cases kq with
    | zero => exact absurd HA.out (by simp [spec_someStarts.j1])
    | succ kj11 =>
     have H := HA.out
     clear HA
     simp only [spec_someStarts.j1] at H
     by_cases c15 : x28_11 = true
     ·
      subst c15
      rw [if_pos rfl] at H
      replace H := bE_ H
      obtain ⟨⟨t390, t391⟩, A160, H⟩ := H
      have A16 := mk0 A160
      clear A160
      by_cases c17 : 0 ≤ t390
      ·
       rw [if_pos c17] at H
       have c17b0 : decide (0 ≤ t390) = true := decide_eq_true c17
       clear c17
       by_cases c18 : t390 < (x9_1.length : Int)
       ·
        rw [if_pos c18] at H
        have c18b0 : decide (t390 < (x9_1.length : Int)) = true := decide_eq_true c18
        clear c18
        obtain ⟨y393, hy393⟩ : ∃ y_ : List Int, y_ = (([0, 1, 5, (-1), 40] : List Int)) := ⟨_, rfl⟩
        replace H : ((spec_reader_one.f kj11 s0_0 t391 y393).bind fun bt396 => (spec_someStarts.l0 kj11 t379 t383 (x9_1.set (t390 : Int).toNat (wrap64 ((rd x9_1 t390) + bt396.1))) (wrap64 (x10_1 - 1)) s0_0 bt396.2)) = some (r1, r2, r3, r4) := by first | (rw [hy393]; with_reducible exact H) | (rw [hy393]; exact (Option.bind_some _ _).symm.trans H) | (rw [hy393]; exact H) | exact H
        have Ny393 := mk0 hy393
        clear hy393
        replace H := bE_ H
        obtain ⟨⟨t396, t397⟩, A190, H⟩ := H
        have A19 := mk0 A190
        clear A190
        obtain ⟨y398, hy398⟩ : ∃ y_ : List Int, y_ = (x9_1.set (t390 : Int).toNat (wrap64 ((rd x9_1 t390) + t396))) := ⟨_, rfl⟩
        replace H : (spec_someStarts.l0 kj11 t379 t383 y398 (wrap64 (x10_1 - 1)) s0_0 t397) = some (r1, r2, r3, r4) := by first | (rw [hy398]; with_reducible exact H) | (rw [hy398]; exact (Option.bind_some _ _).symm.trans H) | (rw [hy398]; exact H) | exact H
        have Ny398 := mk0 hy398
        clear hy398
        have H' := mk0 H
        clear H
        obtain ⟨Ao21, co21, eo21⟩ := Kd.R_slice HO_9.out
        subst eo21
        try go_wp2_with (first | ((with_reducible refine gate_callee (f := 56) rfl ?_); refine goesL_ (some 34) rfl rfl Tryd.func56 (by kernel_rfl) rfl #[.pointer (some ⟨g, 0, none⟩), .int .i64 (x9_1.length : Int)] rfl (by (try simp only [List.map_toArray, List.map_cons, List.map_nil]); first | done | rfl | (simp only [List.length_drop, List.length_take]; rfl)) ?_; (with_reducible refine (spec_reader_pick.calls kj11 g s0_0 x1001_1 (x9_1.length : Int) t390 t391 w0 _ ?side1 ?side2 A16.out).mono ?_); (case side1 => with_reducible repeat (first | exact HI0.out | apply ia_ | apply in_ | apply id_ | apply is_)); (case side2 => with_reducible repeat (first | exact HB.out | apply ba_ | apply bn_ | apply bd_ | refine below_set ?_ (IsS71.ge HI0.out))); rintro e w22 ⟨rfl, hi, hb, hk⟩; refine ⟨_, rfl, ?_⟩; replace HO_7 := mk0 (Kd.Q_mono (Kd.Q_keep (IsS71.apartQ (show IsS71 w0 _ g s0_0 x1001_1 from by with_reducible repeat (first | exact HI0.out | apply ia_ | apply in_ | apply id_ | apply is_)) (by (with_reducible repeat (first | apply Qa_ | apply Qn_ | apply Qd_)); exact HO_7.out) (by decide)) hk (fun _ h => h.2)) (fun _ h => h.1)); replace HO_9 := mk0 (Kd.R_mono (Kd.R_keep (IsS71.apart (show IsS71 w0 _ g s0_0 x1001_1 from by with_reducible repeat (first | exact HI0.out | apply ia_ | apply in_ | apply id_ | apply is_)) (by (with_reducible repeat (first | apply Ra_ | apply Rn_ | apply Rd_)); exact HO_9.out) (by decide)) hk (fun _ h => h.2)) (fun _ h => h.1)); replace HK := mk0 (KeepBut.trans (by with_reducible repeat (first | exact HK.out | apply ks_ | apply kn_ | apply kd_ | apply ka_)) hk (.inl rfl)); replace HB := mk0 (hb); replace HI0 := mk0 (hi); clear hb hk hi))
        replace HO_7 := mk0 (Kd.Q_drew HO_7.out)
        replace HO_9 := mk0 (Kd.R_drew HO_9.out)
        replace HI0 := mk0 (IsS71.drew HI0.out)
        replace HK := mk0 (keep_drew HK.out)
        replace HB := mk0 (below_drew1 HB.out)
        have p392 : 0 ≤ (t390 : Int) := od_ (by with_reducible assumption)
        have q392 : t390 < (x9_1.length : Int) := od_ (by with_reducible assumption)
        obtain ⟨ad392, e392, hx392_0⟩ := Kd.at_int (Kd.R_reads' HO_9.out).2.2 t390 p392 q392
        cases e392
        replace p392 := eq_true p392
        replace q392 := eq_true q392
        refine start_ (n := 12) (S := fun w' => w'.cell? (ad392.add (t390).toNat) = some (.int .i64 (rd x9_1 t390))) (ds := [11]) #[false, false, false, false, false, false, false, false, false, false, false, false] (by kernel_rfl) rfl rfl (hx392_0) (fun hHeld => ?_); refine with_tabW spec_someStarts.tab8 spec_someStarts.bits8 (fun HT_ HW_ => ?_)
        generalize w22.drew = w23 at HO_7 HO_9 HI0 HK HB hx392_0 hHeld ⊢
        refine pure_ (i := 0) (N := some 35) (v := ?_) (a' := ?_) #[true, false, false, false, false, false, false, false, false, false, false, false] rfl rfl (any_of HT_.out (by kernel_rfl)) (fun _ _ _ h => h) (Or.inl ⟨by rfl, ?_⟩) ?_ ?_
        rotate_left
        ·
         intro w'
         go_simp
         with_reducible rfl
        rotate_left
        ·
         simp only [Act.put, List.setIfInBounds_toArray, List.set_cons_zero, List.set_cons_succ, i64_w, i32_w]
         rfl
        refine pure_ (i := 1) (N := some 36) (v := ?_) (a' := ?_) #[true, true, false, false, false, false, false, false, false, false, false, false] rfl rfl (any_of HT_.out (by kernel_rfl)) (fun _ _ _ h => h) (Or.inl ⟨by rfl, ?_⟩) ?_ ?_
        rotate_left
        ·
         intro w'
         go_simp
         with_reducible rfl
        rotate_left
        ·
         simp only [Act.put, List.setIfInBounds_toArray, List.set_cons_zero, List.set_cons_succ, i64_w, i32_w]
         rfl
        refine pure_ (i := 2) (N := some 37) (v := ?_) (a' := ?_) #[true, true, true, false, false, false, false, false, false, false, false, false] rfl rfl (any_of HT_.out (by kernel_rfl)) (fun _ _ _ h => h) (Or.inl ⟨by rfl, ?_⟩) ?_ ?_
        rotate_left
        ·
         intro w'
         go_simp
         with_reducible rfl
        rotate_left
        ·
         simp only [Act.put, List.setIfInBounds_toArray, List.set_cons_zero, List.set_cons_succ, i64_w, i32_w]
         rfl
        refine pure_ (i := 3) (N := some 38) (v := ?_) (a' := ?_) #[true, true, true, true, false, false, false, false, false, false, false, false] rfl rfl (any_of HT_.out (by kernel_rfl)) (fun _ _ _ h => h) (Or.inl ⟨by rfl, ?_⟩) ?_ ?_
        rotate_left
        ·
         intro w'
         go_simp
         with_reducible rfl
        rotate_left
        ·
         simp only [Act.put, List.setIfInBounds_toArray, List.set_cons_zero, List.set_cons_succ, i64_w, i32_w]
         rfl
        refine pure_ (i := 4) (N := some 39) (v := ?_) (a' := ?_) #[true, true, true, true, true, false, false, false, false, false, false, false] rfl rfl (any_of HT_.out (by kernel_rfl)) (fun _ _ _ h => h) (Or.inl ⟨by rfl, ?_⟩) ?_ ?_
        rotate_left
        ·
         intro w'
         go_simp
         with_reducible rfl
        rotate_left
        ·
         simp only [Act.put, List.setIfInBounds_toArray, List.set_cons_zero, List.set_cons_succ, i64_w, i32_w]
         rfl
        refine pure_ (i := 6) (N := some 41) (v := ?_) (a' := ?_) #[true, true, true, true, true, false, true, false, false, false, false, false] rfl rfl (any_of HT_.out (by kernel_rfl)) (fun _ _ _ h => h) (Or.inl ⟨by rfl, ?_⟩) ?_ ?_
        rotate_left
        ·
         intro w'
         go_simp
         with_reducible rfl
        rotate_left
        ·
         simp only [Act.put, List.setIfInBounds_toArray, List.set_cons_zero, List.set_cons_succ, i64_w, i32_w]
         rfl
        refine take_ (i := 5) (N := some 40) (v := ?_) (a' := ?_) #[true, true, true, true, true, true, true, false, false, false, false, false] rfl rfl (take_ofW HT_.out HW_.out (by kernel_rfl)) (fun _ _ _ h => h) (Or.inl ⟨by rfl, ?_⟩) hHeld ?_ ?_
        rotate_left
        ·
         intro w' s0
         go_simp
         with_reducible rfl
        rotate_left
        ·
         simp only [Act.put, List.setIfInBounds_toArray, List.set_cons_zero, List.set_cons_succ, i64_w, i32_w]
         rfl
        refine one_ (i := 7) (N := some 42) #[true, true, true, true, true, true, true, true, false, false, false, false] rfl rfl (one_of HT_.out (by kernel_rfl)) (by decide) (fun K hK => ?_)
        refine Kd.R_lit_step (Kd.int .i64) _ 3 ?hg (N := 42) ?hd (xs := ([0, 1, 5, (-1), 40] : List Int)) (inner := [.int .i64 0, .int .i64 1, .int .i64 5, .int .i64 (-1), .int .i64 40]) (ok := fun _ => True) (okp := fun _ => True) ?hr ?hp (fun _ hk => hk) trivial (Below.refl _ _) (Nat.le_refl _) (by simp) ?_; (case hd => rfl); (case hg => rfl); (case hr => first | (go_simp; done) | (go_simp; rfl)); (case hp => exact (Reps.one (show Kd.M (Kd.int .i64) _ _ _ 0 [.int .i64 0] from rfl) (Reps.one (show Kd.M (Kd.int .i64) _ _ _ 1 [.int .i64 1] from rfl) (Reps.one (show Kd.M (Kd.int .i64) _ _ _ 5 [.int .i64 5] from rfl) (Reps.one (show Kd.M (Kd.int .i64) _ _ _ (-1) [.int .i64 (-1)] from rfl) (Reps.one (show Kd.M (Kd.int .i64) _ _ _ 40 [.int .i64 40] from rfl) (Reps.none _ _)))))))
        intro v394 w24 ho25 hb hg_ hnew_
        have HS0_ := (hb.cell (World.block_lt_of_cell? _ _ (hHeld))).trans (hHeld)
        clear hg_ hnew_
        (first | rw [← Ny393.out] at ho25 | (simp only [Int.reduceToNat] at ho25; rw [← Ny393.out] at ho25))
        have HO395 := mk0 (Kd.R_lower (Kd.R_new' (Kd.R_new' ho25 (Kd.Q_lt (by (with_reducible repeat (first | apply Qa_ | apply Qn_ | apply Qd_)); exact HO_7.out))) (Kd.R_lt (by (with_reducible repeat (first | apply Ra_ | apply Rn_ | apply Rd_)); exact HO_9.out))) (keep_size (w := w) (g := g) (row := none) (by with_reducible repeat (first | exact HK.out | apply ks_ | apply kn_ | apply kd_ | apply ka_))))
        replace HO_7 := mk0 (Kd.Q_elder' (by (with_reducible repeat (first | apply Qa_ | apply Qn_ | apply Qd_)); exact HO_7.out) (Kd.R_base ho25) hb)
        replace HO_9 := mk0 (Kd.R_elder' (by (with_reducible repeat (first | apply Ra_ | apply Rn_ | apply Rd_)); exact HO_9.out) (Kd.R_base ho25) hb)
        replace HK := mk0 (KeepBut.trans (by with_reducible repeat (first | exact HK.out | apply ks_ | apply kn_ | apply kd_ | apply ka_)) (KeepBut.of_below hb g none) (.inl rfl))
        replace HB := mk0 (below_step (by with_reducible repeat (first | exact HB.out | apply ba_ | apply bn_ | apply bd_ | refine below_set ?_ (IsS71.ge HI0.out))) hb)
        replace HI0 := mk0 (IsS71.below (by with_reducible repeat (first | exact HI0.out | apply ia_ | apply in_ | apply id_ | apply is_)) hb)
        clear hb ho25
        obtain ⟨Ao26, co26, eo26⟩ := Kd.R_slice HO395.out
        (first | subst eo26 | (injection eo26 with f1_ f2_ f3_; have f4_ := f1_.symm; have f5_ := f3_.symm; clear f1_ f2_ f3_; subst f4_; subst f5_))
        refine hK.out _ _ (HS0_) (fun hHeld => ?_)
        clear hK K
        refine norm_ (a' := ?_) ?_ ?_
        rotate_left
        ·
         show Act.put _ (some 42) _ = _
         simp only [Act.put, List.setIfInBounds_toArray, List.set_cons_zero, List.set_cons_succ, i64_w, i32_w]
         rfl
        refine one_ (i := 8) (N := some 43) #[true, true, true, true, true, true, true, true, true, false, false, false] rfl rfl (one_of HT_.out (by kernel_rfl)) (by decide) (fun K hK => ?_)
        refine goes_ Tryd.func57 (by kernel_rfl) rfl #[.pointer (some ⟨g, 0, none⟩), .slice Ao26 y393.length co26] (by rfl) rfl rfl (by (try simp only [List.map_toArray, List.map_cons, List.map_nil]); first | done | rfl | (simp only [List.length_drop, List.length_take]; rfl)) ?_
        with_reducible refine (spec_reader_one.calls kj11 g s0_0 t391 _ _ y393 t396 t397 w0 _ ?side1 ?side2 ?side3 ?side4 ?side5 A19.out).mono ?_
        (case side1 => with_reducible repeat (first | exact HI0.out | apply ia_ | apply in_ | apply id_ | apply is_))
        (case side2 => with_reducible repeat (first | exact HB.out | apply ba_ | apply bn_ | apply bd_ | refine below_set ?_ (IsS71.ge HI0.out)))
        (case side3 => repeat (first | exact (Kd.R_reads' HO395.out).2.2 | (with_reducible first | refine Ca_ ?_ _ | refine Cn_ ?_ _ | refine Cd_ ?_)))
        (case side4 => exact (Kd.R_reads' HO395.out).2.1)
        (case side5 => exact far_slice (IsS71.own_ne HI0.out HO395.out (by decide)))
        rintro e w27 ⟨rfl, hi, hb, hk⟩
        have HS0_ := keep_cell hk (hHeld) (by first | (rw [add_block]; exact Kd.own_blk (IsS71.own_ne HI0.out HO_9.out (by decide))) | (show (Addr.add _ _).block ≠ _; rw [add_block]; exact Kd.own_blk (IsS71.own_ne HI0.out HO_9.out (by decide))) | exact Kd.own_blk (IsS71.own_ne HI0.out HO_9.out (by decide)))
        refine ⟨_, rfl, ?_⟩
        replace HO_7 := mk0 (Kd.Q_mono (Kd.Q_keep (IsS71.apartQ (show IsS71 w0 _ g s0_0 t391 from by with_reducible repeat (first | exact HI0.out | apply ia_ | apply in_ | apply id_ | apply is_)) (by (with_reducible repeat (first | apply Qa_ | apply Qn_ | apply Qd_)); exact HO_7.out) (by decide)) hk (fun _ h => h.2)) (fun _ h => h.1))
        replace HO_9 := mk0 (Kd.R_mono (Kd.R_keep (IsS71.apart (show IsS71 w0 _ g s0_0 t391 from by with_reducible repeat (first | exact HI0.out | apply ia_ | apply in_ | apply id_ | apply is_)) (by (with_reducible repeat (first | apply Ra_ | apply Rn_ | apply Rd_)); exact HO_9.out) (by decide)) hk (fun _ h => h.2)) (fun _ h => h.1))
        replace HO395 := mk0 (Kd.R_mono (Kd.R_keep (IsS71.apart (show IsS71 w0 _ g s0_0 t391 from by with_reducible repeat (first | exact HI0.out | apply ia_ | apply in_ | apply id_ | apply is_)) (by (with_reducible repeat (first | apply Ra_ | apply Rn_ | apply Rd_)); exact HO395.out) (by decide)) hk (fun _ h => h.2)) (fun _ h => h.1))
        replace HK := mk0 (KeepBut.trans (by with_reducible repeat (first | exact HK.out | apply ks_ | apply kn_ | apply kd_ | apply ka_)) hk (.inl rfl))
        replace HB := mk0 (hb)
        replace HI0 := mk0 (hi)
        clear hb
        clear hk
        clear hi
        have p20 : 0 ≤ (t390 : Int) := od_ (by with_reducible assumption)
        have q20 : (t390 : Int) < ((x9_1.length : Int) : Int) := od_ (by with_reducible assumption)
        obtain ⟨go20, co20, eo20, gb20, gl20, cl20, HG20⟩ := Kd.R_form HO_9.out (by omega)
        (first | cases eo20 | (injection eo20 with ea_ en_ ec_; (first | subst ea_ | (injection ea_ with ea_; subst ea_)); subst ec_; clear en_))
        have GB20 := mk0 gb20
        have GG20 := mk0 HG20
        clear gb20 gl20 HG20
        (first | simp only [add_plain] at hx392_0 | skip)
        obtain ⟨hx20_0, hf20_0⟩ := Kd.R_celln 0 HO_9.out (t390 : Int) p20 q20
        replace p20 := eq_true p20
        replace q20 := eq_true q20
        have HN0_go20 := mk0 (show g ≠ go20 from by have h_ := IsS71.own_ne HI0.out HO_9.out (by decide); intro e_; exact h_ (by rw [e_]; rfl))
        have HP28 := Kd.R_putn HO_9.out (t390 : Int) (wrap64 ((rd x9_1 t390) + t396))
        rw [← Ny398.out] at HP28
        have HQ28 := mk0 HP28
        clear HP28
        refine hK.out _ _ (HS0_) (fun hHeld => ?_)
        clear hK K
        refine norm_ (a' := ?_) ?_ ?_
        rotate_left
        ·
         show Act.put _ (some 43) _ = _
         simp only [Act.put, List.setIfInBounds_toArray, List.set_cons_zero, List.set_cons_succ, i64_w, i32_w]
         rfl
        refine pure_ (i := 9) (N := some 44) (v := ?_) (a' := ?_) #[true, true, true, true, true, true, true, true, true, true, false, false] rfl rfl (any_of HT_.out (by kernel_rfl)) (fun _ _ _ h => h) (Or.inl ⟨by rfl, ?_⟩) ?_ ?_
        rotate_left
        ·
         intro w'
         go_simp
         with_reducible rfl
        rotate_left
        ·
         simp only [Act.put, List.setIfInBounds_toArray, List.set_cons_zero, List.set_cons_succ, i64_w, i32_w]
         rfl
        refine pure_ (i := 10) (N := some 45) (v := ?_) (a' := ?_) #[true, true, true, true, true, true, true, true, true, true, true, false] rfl rfl (any_of HT_.out (by kernel_rfl)) (fun _ _ _ h => h) (Or.inl ⟨by rfl, ?_⟩) ?_ ?_
        rotate_left
        ·
         intro w'
         go_simp
         with_reducible rfl
        rotate_left
        ·
         simp only [Act.put, List.setIfInBounds_toArray, List.set_cons_zero, List.set_cons_succ, i64_w, i32_w]
         rfl
        refine last_ (i := 11) (N := none) #[true, true, true, true, true, true, true, true, true, true, true, true] rfl rfl (one_of HT_.out (by kernel_rfl)) (by decide) (fun K hK => ?_)
        refine skip_ (w1 := ?_) (by rfl) rfl ?_ ?_
        rotate_left
        ·
         go_simp
         rfl
        refine hK.out _ _ ?_
        clear hK K
        refine done_ (done_of HT_.out (by kernel_rfl)) ?_
        try go_wp2
        go_roundg kj11
        case measure => have := HK1.out; have := HJ11.out; omega
        case rel => exact ⟨(y398), (wrap64 (x10_1 - 1)), (t397), (by first | rfl | (simp; done) | (simp [*]; done)), H', ⟨by have := HK1.out; have := HJ11.out; omega⟩, ⟨by (with_reducible repeat (first | apply Qa_ | apply Qn_ | apply Qd_)); exact Kd.Q_mono (Kd.Q_far (p := ⟨go20, (t390 : Int).toNat, none⟩) (Kd.Q_mono HO_7.out (fun k_ hk => (⟨hk, fun e_ => hk.1 (by rw [e_]; rfl)⟩ : _ ∧ k_ ≠ go20))) (fun _ hk => hk.2) (.int .i64 (wrap64 ((rd x9_1 t390) + t396)))) (fun _ hk => hk.1.1)⟩, ⟨by (with_reducible repeat (first | apply Ra_ | apply Rn_ | apply Rd_)); exact Kd.R_mono HQ28.out (fun _ hk => hk.1)⟩, ⟨by repeat (first | (with_reducible first | exact HI0.out | apply ia_ | apply in_ | apply id_ | apply is_ | refine IsS71.far ?_ HN0_go20.out _) | exact HI0.out)⟩, ⟨by repeat (first | (with_reducible first | exact HK.out | apply ks_ | apply kn_ | apply kd_ | apply ka_ | refine keep_far ?_ GB20.out _) | exact HK.out)⟩, ⟨by with_reducible repeat (first | exact HB.out | apply ba_ | apply bn_ | apply bd_ | refine below_set ?_ (Nat.le_trans HL.out GB20.out) | refine below_set ?_ (IsS71.ge HI0.out))⟩⟩
       ·
        rw [if_neg c18] at H
        exact nn_ H
      ·
       rw [if_neg c17] at H
       exact nn_ H
     ·
      replace c15 := Bool.eq_false_iff.mpr c15
      subst c15
      rw [if_neg (show ¬ (false = true) by decide)] at H
      simp only [Option.some.injEq, Prod.mk.injEq] at H
      obtain ⟨rfl, rfl, rfl, rfl⟩ := H
      go_wp2
      go_ret3
      exact ⟨_, _, by first | rfl | (simp [errW_none, errW_some] <;> rfl) | (simp [*, errW_none, errW_some] <;> rfl), by (with_reducible repeat (first | apply Qa_ | apply Qn_ | apply Qd_)); exact HO_7.out, by (with_reducible repeat (first | apply Ra_ | apply Rn_ | apply Rd_)); exact HO_9.out, by with_reducible repeat (first | exact HI0.out | apply ia_ | apply in_ | apply id_ | apply is_), by with_reducible repeat (first | exact HB.out | apply ba_ | apply bn_ | apply bd_ | refine below_set ?_ (IsS71.ge HI0.out)), by with_reducible repeat (first | exact HK.out | apply ks_ | apply kn_ | apply kd_ | apply ka_)⟩
/-! spec_validRunning -/
mutual
def spec_validRunning.j0 : Nat → List (S41) → List Int → List Int → Bool → Option (Bool)
 | 0, _, _, _, _ => none
 | k + 1, x0, x1, x2, x28 => if x28 = true then (some false) else (spec_validRunning.l0 k x0 x1 x2 0)
def spec_validRunning.l0 : Nat → List (S41) → List Int → List Int → Int → Option (Bool)
 | 0, _, _, _, _ => none
 | k + 1, x0, x1, x2, x7 => if x7 < 3 then ((spec_used.f k x0 x2 x7).bind fun t403 => (if 0 ≤ x7 then (if x7 < (x1.length : Int) then (if t403 > (rd x1 x7) then (some false) else (spec_validRunning.l0 k x0 x1 x2 (wrap64 (x7 + 1)))) else (none)) else (none))) else (some true)
end
def spec_validRunning.f (k : Nat) (l0 : List (S41)) (l1 : List Int) (l2 : List Int) : Option (Bool) := (spec_validGraph.f k l0).bind fun t399 => (if t399 = true then ((spec_validRoom.f k l1).bind fun t400 => (if t400 = true then ((spec_ascends.f k l2).bind fun t401 => (if t401 = true then ((spec_allIn.f k l2 0 (wrap64 ((l0.length : Int) - 1))).bind fun t402 => (spec_validRunning.j0 k l0 l1 l2 (!t402))) else (spec_validRunning.j0 k l0 l1 l2 true))) else (spec_validRunning.j0 k l0 l1 l2 true))) else (spec_validRunning.j0 k l0 l1 l2 true))
set_option maxHeartbeats 8000000 in
set_option maxRecDepth 100000 in
theorem spec_validRunning.calls (k : Nat) (A0 : Option Addr) (c0 : Nat) (l0 : List (S41)) (A1 : Option Addr) (c1 : Nat) (l1 : List Int) (A2 : Option Addr) (c2 : Nat) (l2 : List Int) (r : Bool) (w : World) (hr0 : Kd.C k41 w A0 l0.length l0) (hc0 : l0.length ≤ c0) (hr1 : Kd.C (Kd.int .i64) w A1 l1.length l1) (hc1 : l1.length ≤ c1) (hr2 : Kd.C (Kd.int .i64) w A2 l2.length l2) (hc2 : l2.length ≤ c2) (h : spec_validRunning.f k l0 l1 l2 = some r) :
  Calls Tryd.prog 122 #[.slice A0 l0.length c0, .slice A1 l1.length c1, .slice A2 l2.length c2] w fun e w' => e = .returned (.bool r) ∧ Below w.heap.size w w' := by
 have HR0 := mk0 hr0
 have HC0 := mk0 hc0
 clear hr0 hc0
 have HR1 := mk0 hr1
 have HC1 := mk0 hc1
 clear hr1 hc1
 have HR2 := mk0 hr2
 have HC2 := mk0 hc2
 clear hr2 hc2
 have HB := mk0 (Below.refl w.heap.size w)
 have H : ((spec_validGraph.f k l0).bind fun t399 => (if t399 = true then ((spec_validRoom.f k l1).bind fun t400 => (if t400 = true then ((spec_ascends.f k l2).bind fun t401 => (if t401 = true then ((spec_allIn.f k l2 0 (wrap64 ((l0.length : Int) - 1))).bind fun t402 => (spec_validRunning.j0 k l0 l1 l2 (!t402))) else (spec_validRunning.j0 k l0 l1 l2 true))) else (spec_validRunning.j0 k l0 l1 l2 true))) else (spec_validRunning.j0 k l0 l1 l2 true))) = some r := h
 clear h
 have HC4 := mk0 H
 clear H
 go_enter Tryd.func122, Tryd.ntmps122
 go_upto_region 1 with (fail)
 repeat (go_quiet (fail); go_upto_region 1 with (fail))
 go_cut [28] (fun v28 wc => ∃ (kq : Nat) (x28_3 : Bool), v28 = .bool x28_3 ∧ Aside0 (spec_validRunning.j0 kq l0 l1 l2 x28_3 = some r) ∧ Aside0 (kq ≤ k) ∧ Aside0 (Below w.heap.size w wc))
 case first =>
  have H := HC4.out
  clear HC4
  replace H := bE_ H
  obtain ⟨t399, A50, H⟩ := H
  have A5 := mk0 A50
  clear A50
  by_cases c6 : t399 = true
  ·
   subst c6
   rw [if_pos rfl] at H
   replace H := bE_ H
   obtain ⟨t400, A70, H⟩ := H
   have A7 := mk0 A70
   clear A70
   by_cases c8 : t400 = true
   ·
    subst c8
    rw [if_pos rfl] at H
    replace H := bE_ H
    obtain ⟨t401, A90, H⟩ := H
    have A9 := mk0 A90
    clear A90
    by_cases c10 : t401 = true
    ·
     subst c10
     rw [if_pos rfl] at H
     replace H := bE_ H
     obtain ⟨t402, A110, H⟩ := H
     have A11 := mk0 A110
     clear A110
     have H' := mk0 H
     clear H
     go_wp2_with (first | (go_at_call 40; (with_reducible refine (spec_validGraph.calls k _ _ l0 true _ ?side1 ?side2 A5.out).mono ?_); (case side1 => repeat (first | exact (Kd.C_below HR0.out HB.out) | (with_reducible first | refine Ca_ ?_ _ | refine Cn_ ?_ _ | refine Cd_ ?_))); (case side2 => exact HC0.out); rintro e w12 ⟨rfl, hb⟩; replace HB := mk0 (below_step (by with_reducible repeat (first | exact HB.out | apply ba_ | apply bn_ | apply bd_)) hb); clear hb) | (go_at_call 41; (with_reducible refine (spec_validRoom.calls k _ _ l1 true _ ?side1 ?side2 A7.out).mono ?_); (case side1 => repeat (first | exact (Kd.C_below HR1.out HB.out) | (with_reducible first | refine Ca_ ?_ _ | refine Cn_ ?_ _ | refine Cd_ ?_))); (case side2 => exact HC1.out); rintro e w' ⟨rfl, ⟨nd, rfl⟩⟩; (try first | exact ⟨rfl, _, World.drewN_drewN _ _ _⟩ | exact ⟨rfl, _, Eq.trans (World.drewN_drewN _ _ _) (congrArg (World.drewN _) (Nat.add_assoc _ _ _))⟩)) | (go_at_call 121; (with_reducible refine (spec_ascends.calls k _ _ l2 true _ ?side1 ?side2 A9.out).mono ?_); (case side1 => repeat (first | exact (Kd.C_below HR2.out (by with_reducible repeat (first | exact HB.out | apply ba_ | apply bn_ | apply bd_))) | (with_reducible first | refine Ca_ ?_ _ | refine Cn_ ?_ _ | refine Cd_ ?_))); (case side2 => exact HC2.out); rintro e w' ⟨rfl, ⟨nd, rfl⟩⟩; (try first | exact ⟨rfl, _, World.drewN_drewN _ _ _⟩ | exact ⟨rfl, _, Eq.trans (World.drewN_drewN _ _ _) (congrArg (World.drewN _) (Nat.add_assoc _ _ _))⟩)) | (go_at_call 85; (with_reducible refine (spec_allIn.calls k _ _ l2 0 (wrap64 ((l0.length : Int) - 1)) t402 _ ?side1 ?side2 A11.out).mono ?_); (case side1 => repeat (first | exact (Kd.C_below HR2.out (by with_reducible repeat (first | exact HB.out | apply ba_ | apply bn_ | apply bd_))) | (with_reducible first | refine Ca_ ?_ _ | refine Cn_ ?_ _ | refine Cd_ ?_))); (case side2 => exact HC2.out); rintro e w' ⟨rfl, ⟨nd, rfl⟩⟩; (try first | exact ⟨rfl, _, World.drewN_drewN _ _ _⟩ | exact ⟨rfl, _, Eq.trans (World.drewN_drewN _ _ _) (congrArg (World.drewN _) (Nat.add_assoc _ _ _))⟩)))
     repeat (go_quiet (first | (go_at_call 40; (with_reducible refine (spec_validGraph.calls k _ _ l0 true _ ?side1 ?side2 A5.out).mono ?_); (case side1 => repeat (first | exact (Kd.C_below HR0.out HB.out) | (with_reducible first | refine Ca_ ?_ _ | refine Cn_ ?_ _ | refine Cd_ ?_))); (case side2 => exact HC0.out); rintro e w12 ⟨rfl, hb⟩; replace HB := mk0 (below_step (by with_reducible repeat (first | exact HB.out | apply ba_ | apply bn_ | apply bd_)) hb); clear hb) | (go_at_call 41; (with_reducible refine (spec_validRoom.calls k _ _ l1 true _ ?side1 ?side2 A7.out).mono ?_); (case side1 => repeat (first | exact (Kd.C_below HR1.out HB.out) | (with_reducible first | refine Ca_ ?_ _ | refine Cn_ ?_ _ | refine Cd_ ?_))); (case side2 => exact HC1.out); rintro e w' ⟨rfl, ⟨nd, rfl⟩⟩; (try first | exact ⟨rfl, _, World.drewN_drewN _ _ _⟩ | exact ⟨rfl, _, Eq.trans (World.drewN_drewN _ _ _) (congrArg (World.drewN _) (Nat.add_assoc _ _ _))⟩)) | (go_at_call 121; (with_reducible refine (spec_ascends.calls k _ _ l2 true _ ?side1 ?side2 A9.out).mono ?_); (case side1 => repeat (first | exact (Kd.C_below HR2.out (by with_reducible repeat (first | exact HB.out | apply ba_ | apply bn_ | apply bd_))) | (with_reducible first | refine Ca_ ?_ _ | refine Cn_ ?_ _ | refine Cd_ ?_))); (case side2 => exact HC2.out); rintro e w' ⟨rfl, ⟨nd, rfl⟩⟩; (try first | exact ⟨rfl, _, World.drewN_drewN _ _ _⟩ | exact ⟨rfl, _, Eq.trans (World.drewN_drewN _ _ _) (congrArg (World.drewN _) (Nat.add_assoc _ _ _))⟩)) | (go_at_call 85; (with_reducible refine (spec_allIn.calls k _ _ l2 0 (wrap64 ((l0.length : Int) - 1)) t402 _ ?side1 ?side2 A11.out).mono ?_); (case side1 => repeat (first | exact (Kd.C_below HR2.out (by with_reducible repeat (first | exact HB.out | apply ba_ | apply bn_ | apply bd_))) | (with_reducible first | refine Ca_ ?_ _ | refine Cn_ ?_ _ | refine Cd_ ?_))); (case side2 => exact HC2.out); rintro e w' ⟨rfl, ⟨nd, rfl⟩⟩; (try first | exact ⟨rfl, _, World.drewN_drewN _ _ _⟩ | exact ⟨rfl, _, Eq.trans (World.drewN_drewN _ _ _) (congrArg (World.drewN _) (Nat.add_assoc _ _ _))⟩))); try go_wp2_with (first | (go_at_call 40; (with_reducible refine (spec_validGraph.calls k _ _ l0 true _ ?side1 ?side2 A5.out).mono ?_); (case side1 => repeat (first | exact (Kd.C_below HR0.out HB.out) | (with_reducible first | refine Ca_ ?_ _ | refine Cn_ ?_ _ | refine Cd_ ?_))); (case side2 => exact HC0.out); rintro e w12 ⟨rfl, hb⟩; replace HB := mk0 (below_step (by with_reducible repeat (first | exact HB.out | apply ba_ | apply bn_ | apply bd_)) hb); clear hb) | (go_at_call 41; (with_reducible refine (spec_validRoom.calls k _ _ l1 true _ ?side1 ?side2 A7.out).mono ?_); (case side1 => repeat (first | exact (Kd.C_below HR1.out HB.out) | (with_reducible first | refine Ca_ ?_ _ | refine Cn_ ?_ _ | refine Cd_ ?_))); (case side2 => exact HC1.out); rintro e w' ⟨rfl, ⟨nd, rfl⟩⟩; (try first | exact ⟨rfl, _, World.drewN_drewN _ _ _⟩ | exact ⟨rfl, _, Eq.trans (World.drewN_drewN _ _ _) (congrArg (World.drewN _) (Nat.add_assoc _ _ _))⟩)) | (go_at_call 121; (with_reducible refine (spec_ascends.calls k _ _ l2 true _ ?side1 ?side2 A9.out).mono ?_); (case side1 => repeat (first | exact (Kd.C_below HR2.out (by with_reducible repeat (first | exact HB.out | apply ba_ | apply bn_ | apply bd_))) | (with_reducible first | refine Ca_ ?_ _ | refine Cn_ ?_ _ | refine Cd_ ?_))); (case side2 => exact HC2.out); rintro e w' ⟨rfl, ⟨nd, rfl⟩⟩; (try first | exact ⟨rfl, _, World.drewN_drewN _ _ _⟩ | exact ⟨rfl, _, Eq.trans (World.drewN_drewN _ _ _) (congrArg (World.drewN _) (Nat.add_assoc _ _ _))⟩)) | (go_at_call 85; (with_reducible refine (spec_allIn.calls k _ _ l2 0 (wrap64 ((l0.length : Int) - 1)) t402 _ ?side1 ?side2 A11.out).mono ?_); (case side1 => repeat (first | exact (Kd.C_below HR2.out (by with_reducible repeat (first | exact HB.out | apply ba_ | apply bn_ | apply bd_))) | (with_reducible first | refine Ca_ ?_ _ | refine Cn_ ?_ _ | refine Cd_ ?_))); (case side2 => exact HC2.out); rintro e w' ⟨rfl, ⟨nd, rfl⟩⟩; (try first | exact ⟨rfl, _, World.drewN_drewN _ _ _⟩ | exact ⟨rfl, _, Eq.trans (World.drewN_drewN _ _ _) (congrArg (World.drewN _) (Nat.add_assoc _ _ _))⟩))))
     go_meet
     case rel => exact ⟨_, (!t402), (by first | rfl | (simp; done) | (simp [*]; done)), H', ⟨by first | omega | exact Nat.le_refl _⟩, ⟨by with_reducible repeat (first | exact HB.out | apply ba_ | apply bn_ | apply bd_)⟩⟩
    ·
     replace c10 := Bool.eq_false_iff.mpr c10
     subst c10
     rw [if_neg (show ¬ (false = true) by decide)] at H
     have H' := mk0 H
     clear H
     go_wp2_with (first | (go_at_call 40; (with_reducible refine (spec_validGraph.calls k _ _ l0 true _ ?side1 ?side2 A5.out).mono ?_); (case side1 => repeat (first | exact (Kd.C_below HR0.out HB.out) | (with_reducible first | refine Ca_ ?_ _ | refine Cn_ ?_ _ | refine Cd_ ?_))); (case side2 => exact HC0.out); rintro e w13 ⟨rfl, hb⟩; replace HB := mk0 (below_step (by with_reducible repeat (first | exact HB.out | apply ba_ | apply bn_ | apply bd_)) hb); clear hb) | (go_at_call 41; (with_reducible refine (spec_validRoom.calls k _ _ l1 true _ ?side1 ?side2 A7.out).mono ?_); (case side1 => repeat (first | exact (Kd.C_below HR1.out HB.out) | (with_reducible first | refine Ca_ ?_ _ | refine Cn_ ?_ _ | refine Cd_ ?_))); (case side2 => exact HC1.out); rintro e w' ⟨rfl, ⟨nd, rfl⟩⟩; (try first | exact ⟨rfl, _, World.drewN_drewN _ _ _⟩ | exact ⟨rfl, _, Eq.trans (World.drewN_drewN _ _ _) (congrArg (World.drewN _) (Nat.add_assoc _ _ _))⟩)) | (go_at_call 121; (with_reducible refine (spec_ascends.calls k _ _ l2 false _ ?side1 ?side2 A9.out).mono ?_); (case side1 => repeat (first | exact (Kd.C_below HR2.out (by with_reducible repeat (first | exact HB.out | apply ba_ | apply bn_ | apply bd_))) | (with_reducible first | refine Ca_ ?_ _ | refine Cn_ ?_ _ | refine Cd_ ?_))); (case side2 => exact HC2.out); rintro e w' ⟨rfl, ⟨nd, rfl⟩⟩; (try first | exact ⟨rfl, _, World.drewN_drewN _ _ _⟩ | exact ⟨rfl, _, Eq.trans (World.drewN_drewN _ _ _) (congrArg (World.drewN _) (Nat.add_assoc _ _ _))⟩)))
     repeat (go_quiet (first | (go_at_call 40; (with_reducible refine (spec_validGraph.calls k _ _ l0 true _ ?side1 ?side2 A5.out).mono ?_); (case side1 => repeat (first | exact (Kd.C_below HR0.out HB.out) | (with_reducible first | refine Ca_ ?_ _ | refine Cn_ ?_ _ | refine Cd_ ?_))); (case side2 => exact HC0.out); rintro e w13 ⟨rfl, hb⟩; replace HB := mk0 (below_step (by with_reducible repeat (first | exact HB.out | apply ba_ | apply bn_ | apply bd_)) hb); clear hb) | (go_at_call 41; (with_reducible refine (spec_validRoom.calls k _ _ l1 true _ ?side1 ?side2 A7.out).mono ?_); (case side1 => repeat (first | exact (Kd.C_below HR1.out HB.out) | (with_reducible first | refine Ca_ ?_ _ | refine Cn_ ?_ _ | refine Cd_ ?_))); (case side2 => exact HC1.out); rintro e w' ⟨rfl, ⟨nd, rfl⟩⟩; (try first | exact ⟨rfl, _, World.drewN_drewN _ _ _⟩ | exact ⟨rfl, _, Eq.trans (World.drewN_drewN _ _ _) (congrArg (World.drewN _) (Nat.add_assoc _ _ _))⟩)) | (go_at_call 121; (with_reducible refine (spec_ascends.calls k _ _ l2 false _ ?side1 ?side2 A9.out).mono ?_); (case side1 => repeat (first | exact (Kd.C_below HR2.out (by with_reducible repeat (first | exact HB.out | apply ba_ | apply bn_ | apply bd_))) | (with_reducible first | refine Ca_ ?_ _ | refine Cn_ ?_ _ | refine Cd_ ?_))); (case side2 => exact HC2.out); rintro e w' ⟨rfl, ⟨nd, rfl⟩⟩; (try first | exact ⟨rfl, _, World.drewN_drewN _ _ _⟩ | exact ⟨rfl, _, Eq.trans (World.drewN_drewN _ _ _) (congrArg (World.drewN _) (Nat.add_assoc _ _ _))⟩))); try go_wp2_with (first | (go_at_call 40; (with_reducible refine (spec_validGraph.calls k _ _ l0 true _ ?side1 ?side2 A5.out).mono ?_); (case side1 => repeat (first | exact (Kd.C_below HR0.out HB.out) | (with_reducible first | refine Ca_ ?_ _ | refine Cn_ ?_ _ | refine Cd_ ?_))); (case side2 => exact HC0.out); rintro e w13 ⟨rfl, hb⟩; replace HB := mk0 (below_step (by with_reducible repeat (first | exact HB.out | apply ba_ | apply bn_ | apply bd_)) hb); clear hb) | (go_at_call 41; (with_reducible refine (spec_validRoom.calls k _ _ l1 true _ ?side1 ?side2 A7.out).mono ?_); (case side1 => repeat (first | exact (Kd.C_below HR1.out HB.out) | (with_reducible first | refine Ca_ ?_ _ | refine Cn_ ?_ _ | refine Cd_ ?_))); (case side2 => exact HC1.out); rintro e w' ⟨rfl, ⟨nd, rfl⟩⟩; (try first | exact ⟨rfl, _, World.drewN_drewN _ _ _⟩ | exact ⟨rfl, _, Eq.trans (World.drewN_drewN _ _ _) (congrArg (World.drewN _) (Nat.add_assoc _ _ _))⟩)) | (go_at_call 121; (with_reducible refine (spec_ascends.calls k _ _ l2 false _ ?side1 ?side2 A9.out).mono ?_); (case side1 => repeat (first | exact (Kd.C_below HR2.out (by with_reducible repeat (first | exact HB.out | apply ba_ | apply bn_ | apply bd_))) | (with_reducible first | refine Ca_ ?_ _ | refine Cn_ ?_ _ | refine Cd_ ?_))); (case side2 => exact HC2.out); rintro e w' ⟨rfl, ⟨nd, rfl⟩⟩; (try first | exact ⟨rfl, _, World.drewN_drewN _ _ _⟩ | exact ⟨rfl, _, Eq.trans (World.drewN_drewN _ _ _) (congrArg (World.drewN _) (Nat.add_assoc _ _ _))⟩))))
     go_meet
     case rel => exact ⟨_, (true), (by first | rfl | (simp; done) | (simp [*]; done)), H', ⟨by first | omega | exact Nat.le_refl _⟩, ⟨by with_reducible repeat (first | exact HB.out | apply ba_ | apply bn_ | apply bd_)⟩⟩
   ·
    replace c8 := Bool.eq_false_iff.mpr c8
    subst c8
    rw [if_neg (show ¬ (false = true) by decide)] at H
    have H' := mk0 H
    clear H
    go_wp2_with (first | (go_at_call 40; (with_reducible refine (spec_validGraph.calls k _ _ l0 true _ ?side1 ?side2 A5.out).mono ?_); (case side1 => repeat (first | exact (Kd.C_below HR0.out HB.out) | (with_reducible first | refine Ca_ ?_ _ | refine Cn_ ?_ _ | refine Cd_ ?_))); (case side2 => exact HC0.out); rintro e w14 ⟨rfl, hb⟩; replace HB := mk0 (below_step (by with_reducible repeat (first | exact HB.out | apply ba_ | apply bn_ | apply bd_)) hb); clear hb) | (go_at_call 41; (with_reducible refine (spec_validRoom.calls k _ _ l1 false _ ?side1 ?side2 A7.out).mono ?_); (case side1 => repeat (first | exact (Kd.C_below HR1.out HB.out) | (with_reducible first | refine Ca_ ?_ _ | refine Cn_ ?_ _ | refine Cd_ ?_))); (case side2 => exact HC1.out); rintro e w' ⟨rfl, ⟨nd, rfl⟩⟩; (try first | exact ⟨rfl, _, World.drewN_drewN _ _ _⟩ | exact ⟨rfl, _, Eq.trans (World.drewN_drewN _ _ _) (congrArg (World.drewN _) (Nat.add_assoc _ _ _))⟩)))
    repeat (go_quiet (first | (go_at_call 40; (with_reducible refine (spec_validGraph.calls k _ _ l0 true _ ?side1 ?side2 A5.out).mono ?_); (case side1 => repeat (first | exact (Kd.C_below HR0.out HB.out) | (with_reducible first | refine Ca_ ?_ _ | refine Cn_ ?_ _ | refine Cd_ ?_))); (case side2 => exact HC0.out); rintro e w14 ⟨rfl, hb⟩; replace HB := mk0 (below_step (by with_reducible repeat (first | exact HB.out | apply ba_ | apply bn_ | apply bd_)) hb); clear hb) | (go_at_call 41; (with_reducible refine (spec_validRoom.calls k _ _ l1 false _ ?side1 ?side2 A7.out).mono ?_); (case side1 => repeat (first | exact (Kd.C_below HR1.out HB.out) | (with_reducible first | refine Ca_ ?_ _ | refine Cn_ ?_ _ | refine Cd_ ?_))); (case side2 => exact HC1.out); rintro e w' ⟨rfl, ⟨nd, rfl⟩⟩; (try first | exact ⟨rfl, _, World.drewN_drewN _ _ _⟩ | exact ⟨rfl, _, Eq.trans (World.drewN_drewN _ _ _) (congrArg (World.drewN _) (Nat.add_assoc _ _ _))⟩))); try go_wp2_with (first | (go_at_call 40; (with_reducible refine (spec_validGraph.calls k _ _ l0 true _ ?side1 ?side2 A5.out).mono ?_); (case side1 => repeat (first | exact (Kd.C_below HR0.out HB.out) | (with_reducible first | refine Ca_ ?_ _ | refine Cn_ ?_ _ | refine Cd_ ?_))); (case side2 => exact HC0.out); rintro e w14 ⟨rfl, hb⟩; replace HB := mk0 (below_step (by with_reducible repeat (first | exact HB.out | apply ba_ | apply bn_ | apply bd_)) hb); clear hb) | (go_at_call 41; (with_reducible refine (spec_validRoom.calls k _ _ l1 false _ ?side1 ?side2 A7.out).mono ?_); (case side1 => repeat (first | exact (Kd.C_below HR1.out HB.out) | (with_reducible first | refine Ca_ ?_ _ | refine Cn_ ?_ _ | refine Cd_ ?_))); (case side2 => exact HC1.out); rintro e w' ⟨rfl, ⟨nd, rfl⟩⟩; (try first | exact ⟨rfl, _, World.drewN_drewN _ _ _⟩ | exact ⟨rfl, _, Eq.trans (World.drewN_drewN _ _ _) (congrArg (World.drewN _) (Nat.add_assoc _ _ _))⟩))))
    go_meet
    case rel => exact ⟨_, (true), (by first | rfl | (simp; done) | (simp [*]; done)), H', ⟨by first | omega | exact Nat.le_refl _⟩, ⟨by with_reducible repeat (first | exact HB.out | apply ba_ | apply bn_ | apply bd_)⟩⟩
  ·
   replace c6 := Bool.eq_false_iff.mpr c6
   subst c6
   rw [if_neg (show ¬ (false = true) by decide)] at H
   have H' := mk0 H
   clear H
   go_wp2_with (first | (go_at_call 40; (with_reducible refine (spec_validGraph.calls k _ _ l0 false _ ?side1 ?side2 A5.out).mono ?_); (case side1 => repeat (first | exact (Kd.C_below HR0.out HB.out) | (with_reducible first | refine Ca_ ?_ _ | refine Cn_ ?_ _ | refine Cd_ ?_))); (case side2 => exact HC0.out); rintro e w15 ⟨rfl, hb⟩; replace HB := mk0 (below_step (by with_reducible repeat (first | exact HB.out | apply ba_ | apply bn_ | apply bd_)) hb); clear hb))
   repeat (go_quiet (first | (go_at_call 40; (with_reducible refine (spec_validGraph.calls k _ _ l0 false _ ?side1 ?side2 A5.out).mono ?_); (case side1 => repeat (first | exact (Kd.C_below HR0.out HB.out) | (with_reducible first | refine Ca_ ?_ _ | refine Cn_ ?_ _ | refine Cd_ ?_))); (case side2 => exact HC0.out); rintro e w15 ⟨rfl, hb⟩; replace HB := mk0 (below_step (by with_reducible repeat (first | exact HB.out | apply ba_ | apply bn_ | apply bd_)) hb); clear hb)); try go_wp2_with (first | (go_at_call 40; (with_reducible refine (spec_validGraph.calls k _ _ l0 false _ ?side1 ?side2 A5.out).mono ?_); (case side1 => repeat (first | exact (Kd.C_below HR0.out HB.out) | (with_reducible first | refine Ca_ ?_ _ | refine Cn_ ?_ _ | refine Cd_ ?_))); (case side2 => exact HC0.out); rintro e w15 ⟨rfl, hb⟩; replace HB := mk0 (below_step (by with_reducible repeat (first | exact HB.out | apply ba_ | apply bn_ | apply bd_)) hb); clear hb)))
   go_meet
   case rel => exact ⟨_, (true), (by first | rfl | (simp; done) | (simp [*]; done)), H', ⟨by first | omega | exact Nat.le_refl _⟩, ⟨by with_reducible repeat (first | exact HB.out | apply ba_ | apply bn_ | apply bd_)⟩⟩
 case rest =>
  clear HC4
  try clear c1
  try clear c2
  try clear p2
  try clear c6
  try clear p6
  try clear c8
  try clear c10
  try clear c12
  obtain ⟨kq, x28_3, rfl, HA, HJ3, HB⟩ := hcut
  cases kq with
  | zero => exact absurd HA.out (by simp [spec_validRunning.j0])
  | succ kj3 =>
   have H := HA.out
   clear HA
   simp only [spec_validRunning.j0] at H
   by_cases c16 : x28_3 = true
   ·
    subst c16
    rw [if_pos rfl] at H
    obtain rfl := Option.some.inj H
    go_wp2
    repeat (go_quiet (fail); try go_wp2)
    go_ret
    exact ⟨by first | rfl | (simp [errW_none, errW_some] <;> rfl) | (simp [*, errW_none, errW_some] <;> rfl), by with_reducible repeat (first | exact HB.out | apply ba_ | apply bn_ | apply bd_)⟩
   ·
    replace c16 := Bool.eq_false_iff.mpr c16
    subst c16
    rw [if_neg (show ¬ (false = true) by decide)] at H
    have H' := mk0 H
    clear H
    go_wp2
    repeat (go_quiet (fail); try go_wp2)
    go_loopg [7] kj3 (fun kq v7 w' => ∃ (x7_2 : Int), v7 = .int .i64 x7_2 ∧ Aside0 (spec_validRunning.l0 kq l0 l1 l2 x7_2 = some r) ∧ Aside0 (kq ≤ kj3) ∧ Aside0 (Below w.heap.size w w'))
    case atStart => exact ⟨(0), (by first | rfl | (simp; done) | (simp [*]; done)), H', ⟨Nat.le_refl _⟩, ⟨by with_reducible repeat (first | exact HB.out | apply ba_ | apply bn_ | apply bd_)⟩⟩
    case round =>
     clear H'
     try clear c1
     try clear c2
     try clear p2
     try clear c6
     try clear p6
     try clear c8
     try clear c10
     try clear c12
     try clear c16
     try clear p2
     try clear p6
     obtain ⟨x7_2, rfl, HA, HK2, HB⟩ := hrel
     cases gk with
     | zero => exact absurd HA.out (by simp [spec_validRunning.l0])
     | succ k2 =>
      have H := HA.out
      clear HA
      simp only [spec_validRunning.l0] at H
      by_cases c17 : x7_2 < 3
      ·
       rw [if_pos c17] at H
       have c17b0 : decide (x7_2 < 3) = true := decide_eq_true c17
       clear c17
       replace H := bE_ H
       obtain ⟨t403, A180, H⟩ := H
       have A18 := mk0 A180
       clear A180
       by_cases c19 : 0 ≤ x7_2
       ·
        rw [if_pos c19] at H
        have c19b0 : decide (0 ≤ x7_2) = true := decide_eq_true c19
        clear c19
        by_cases c20 : x7_2 < (l1.length : Int)
        ·
         rw [if_pos c20] at H
         have c20b0 : decide (x7_2 < (l1.length : Int)) = true := decide_eq_true c20
         clear c20
         by_cases c21 : t403 > (rd l1 x7_2)
         ·
          rw [if_pos c21] at H
          have c21b0 : decide ((rd l1 x7_2) < t403) = true := decide_eq_true c21
          clear c21
          obtain rfl := Option.some.inj H
          go_wp2_with (first | (go_at_call 113; (with_reducible refine (spec_used.calls k2 _ _ l0 _ _ l2 x7_2 t403 _ ?side1 ?side2 ?side3 ?side4 A18.out).mono ?_); (case side1 => repeat (first | exact (Kd.C_below HR0.out HB.out) | (with_reducible first | refine Ca_ ?_ _ | refine Cn_ ?_ _ | refine Cd_ ?_))); (case side2 => exact HC0.out); (case side3 => repeat (first | exact (Kd.C_below HR2.out HB.out) | (with_reducible first | refine Ca_ ?_ _ | refine Cn_ ?_ _ | refine Cd_ ?_))); (case side4 => exact HC2.out); rintro e w' ⟨rfl, ⟨nd, rfl⟩⟩; (try first | exact ⟨rfl, _, World.drewN_drewN _ _ _⟩ | exact ⟨rfl, _, Eq.trans (World.drewN_drewN _ _ _) (congrArg (World.drewN _) (Nat.add_assoc _ _ _))⟩); have p404 : 0 ≤ (x7_2 : Int) := od_ (by with_reducible assumption); have q404 : x7_2 < (l1.length : Int) := od_ (by with_reducible assumption); obtain ⟨ad404, e404, hx404_0⟩ := Kd.at_int HR1.out x7_2 p404 q404; cases e404; replace hx404_0 := (HB.out.cell (World.block_lt_of_cell? w _ hx404_0)).trans hx404_0; replace p404 := eq_true p404; replace q404 := eq_true q404))
          repeat (go_quiet (first | (go_at_call 113; (with_reducible refine (spec_used.calls k2 _ _ l0 _ _ l2 x7_2 t403 _ ?side1 ?side2 ?side3 ?side4 A18.out).mono ?_); (case side1 => repeat (first | exact (Kd.C_below HR0.out HB.out) | (with_reducible first | refine Ca_ ?_ _ | refine Cn_ ?_ _ | refine Cd_ ?_))); (case side2 => exact HC0.out); (case side3 => repeat (first | exact (Kd.C_below HR2.out HB.out) | (with_reducible first | refine Ca_ ?_ _ | refine Cn_ ?_ _ | refine Cd_ ?_))); (case side4 => exact HC2.out); rintro e w' ⟨rfl, ⟨nd, rfl⟩⟩; (try first | exact ⟨rfl, _, World.drewN_drewN _ _ _⟩ | exact ⟨rfl, _, Eq.trans (World.drewN_drewN _ _ _) (congrArg (World.drewN _) (Nat.add_assoc _ _ _))⟩); have p404 : 0 ≤ (x7_2 : Int) := od_ (by with_reducible assumption); have q404 : x7_2 < (l1.length : Int) := od_ (by with_reducible assumption); obtain ⟨ad404, e404, hx404_0⟩ := Kd.at_int HR1.out x7_2 p404 q404; cases e404; replace hx404_0 := (HB.out.cell (World.block_lt_of_cell? w _ hx404_0)).trans hx404_0; replace p404 := eq_true p404; replace q404 := eq_true q404)); try go_wp2_with (first | (go_at_call 113; (with_reducible refine (spec_used.calls k2 _ _ l0 _ _ l2 x7_2 t403 _ ?side1 ?side2 ?side3 ?side4 A18.out).mono ?_); (case side1 => repeat (first | exact (Kd.C_below HR0.out HB.out) | (with_reducible first | refine Ca_ ?_ _ | refine Cn_ ?_ _ | refine Cd_ ?_))); (case side2 => exact HC0.out); (case side3 => repeat (first | exact (Kd.C_below HR2.out HB.out) | (with_reducible first | refine Ca_ ?_ _ | refine Cn_ ?_ _ | refine Cd_ ?_))); (case side4 => exact HC2.out); rintro e w' ⟨rfl, ⟨nd, rfl⟩⟩; (try first | exact ⟨rfl, _, World.drewN_drewN _ _ _⟩ | exact ⟨rfl, _, Eq.trans (World.drewN_drewN _ _ _) (congrArg (World.drewN _) (Nat.add_assoc _ _ _))⟩); have p404 : 0 ≤ (x7_2 : Int) := od_ (by with_reducible assumption); have q404 : x7_2 < (l1.length : Int) := od_ (by with_reducible assumption); obtain ⟨ad404, e404, hx404_0⟩ := Kd.at_int HR1.out x7_2 p404 q404; cases e404; replace hx404_0 := (HB.out.cell (World.block_lt_of_cell? w _ hx404_0)).trans hx404_0; replace p404 := eq_true p404; replace q404 := eq_true q404)))
          go_ret
          exact ⟨by first | rfl | (simp [errW_none, errW_some] <;> rfl) | (simp [*, errW_none, errW_some] <;> rfl), by with_reducible repeat (first | exact HB.out | apply ba_ | apply bn_ | apply bd_)⟩
         ·
          rw [if_neg c21] at H
          have c21b0 : decide ((rd l1 x7_2) < t403) = false := decide_eq_false c21
          clear c21
          have H' := mk0 H
          clear H
          go_wp2_with (first | (go_at_call 113; (with_reducible refine (spec_used.calls k2 _ _ l0 _ _ l2 x7_2 t403 _ ?side1 ?side2 ?side3 ?side4 A18.out).mono ?_); (case side1 => repeat (first | exact (Kd.C_below HR0.out HB.out) | (with_reducible first | refine Ca_ ?_ _ | refine Cn_ ?_ _ | refine Cd_ ?_))); (case side2 => exact HC0.out); (case side3 => repeat (first | exact (Kd.C_below HR2.out HB.out) | (with_reducible first | refine Ca_ ?_ _ | refine Cn_ ?_ _ | refine Cd_ ?_))); (case side4 => exact HC2.out); rintro e w' ⟨rfl, ⟨nd, rfl⟩⟩; (try first | exact ⟨rfl, _, World.drewN_drewN _ _ _⟩ | exact ⟨rfl, _, Eq.trans (World.drewN_drewN _ _ _) (congrArg (World.drewN _) (Nat.add_assoc _ _ _))⟩); have p404 : 0 ≤ (x7_2 : Int) := od_ (by with_reducible assumption); have q404 : x7_2 < (l1.length : Int) := od_ (by with_reducible assumption); obtain ⟨ad404, e404, hx404_0⟩ := Kd.at_int HR1.out x7_2 p404 q404; cases e404; replace hx404_0 := (HB.out.cell (World.block_lt_of_cell? w _ hx404_0)).trans hx404_0; replace p404 := eq_true p404; replace q404 := eq_true q404))
          repeat (go_quiet (first | (go_at_call 113; (with_reducible refine (spec_used.calls k2 _ _ l0 _ _ l2 x7_2 t403 _ ?side1 ?side2 ?side3 ?side4 A18.out).mono ?_); (case side1 => repeat (first | exact (Kd.C_below HR0.out HB.out) | (with_reducible first | refine Ca_ ?_ _ | refine Cn_ ?_ _ | refine Cd_ ?_))); (case side2 => exact HC0.out); (case side3 => repeat (first | exact (Kd.C_below HR2.out HB.out) | (with_reducible first | refine Ca_ ?_ _ | refine Cn_ ?_ _ | refine Cd_ ?_))); (case side4 => exact HC2.out); rintro e w' ⟨rfl, ⟨nd, rfl⟩⟩; (try first | exact ⟨rfl, _, World.drewN_drewN _ _ _⟩ | exact ⟨rfl, _, Eq.trans (World.drewN_drewN _ _ _) (congrArg (World.drewN _) (Nat.add_assoc _ _ _))⟩); have p404 : 0 ≤ (x7_2 : Int) := od_ (by with_reducible assumption); have q404 : x7_2 < (l1.length : Int) := od_ (by with_reducible assumption); obtain ⟨ad404, e404, hx404_0⟩ := Kd.at_int HR1.out x7_2 p404 q404; cases e404; replace hx404_0 := (HB.out.cell (World.block_lt_of_cell? w _ hx404_0)).trans hx404_0; replace p404 := eq_true p404; replace q404 := eq_true q404)); try go_wp2_with (first | (go_at_call 113; (with_reducible refine (spec_used.calls k2 _ _ l0 _ _ l2 x7_2 t403 _ ?side1 ?side2 ?side3 ?side4 A18.out).mono ?_); (case side1 => repeat (first | exact (Kd.C_below HR0.out HB.out) | (with_reducible first | refine Ca_ ?_ _ | refine Cn_ ?_ _ | refine Cd_ ?_))); (case side2 => exact HC0.out); (case side3 => repeat (first | exact (Kd.C_below HR2.out HB.out) | (with_reducible first | refine Ca_ ?_ _ | refine Cn_ ?_ _ | refine Cd_ ?_))); (case side4 => exact HC2.out); rintro e w' ⟨rfl, ⟨nd, rfl⟩⟩; (try first | exact ⟨rfl, _, World.drewN_drewN _ _ _⟩ | exact ⟨rfl, _, Eq.trans (World.drewN_drewN _ _ _) (congrArg (World.drewN _) (Nat.add_assoc _ _ _))⟩); have p404 : 0 ≤ (x7_2 : Int) := od_ (by with_reducible assumption); have q404 : x7_2 < (l1.length : Int) := od_ (by with_reducible assumption); obtain ⟨ad404, e404, hx404_0⟩ := Kd.at_int HR1.out x7_2 p404 q404; cases e404; replace hx404_0 := (HB.out.cell (World.block_lt_of_cell? w _ hx404_0)).trans hx404_0; replace p404 := eq_true p404; replace q404 := eq_true q404)))
          go_roundg k2
          case measure => have := HJ3.out; have := HK2.out; omega
          case rel => exact ⟨(wrap64 (x7_2 + 1)), (by first | rfl | (simp; done) | (simp [*]; done)), H', ⟨by have := HJ3.out; have := HK2.out; omega⟩, ⟨by with_reducible repeat (first | exact HB.out | apply ba_ | apply bn_ | apply bd_)⟩⟩
        ·
         rw [if_neg c20] at H
         exact nn_ H
       ·
        rw [if_neg c19] at H
        exact nn_ H
      ·
       rw [if_neg c17] at H
       have c17b0 : decide (x7_2 < 3) = false := decide_eq_false c17
       clear c17
       obtain rfl := Option.some.inj H
       go_wp2
       repeat (go_quiet (fail); try go_wp2)
       go_ret
       exact ⟨by first | rfl | (simp [errW_none, errW_some] <;> rfl) | (simp [*, errW_none, errW_some] <;> rfl), by with_reducible repeat (first | exact HB.out | apply ba_ | apply bn_ | apply bd_)⟩
end Go.Proofs.YtpmfghbjkampkaaDoor.PFnValidLog
