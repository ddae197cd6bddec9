/- The body of the law FnValidLogTwice, walked: cut by a program of mine from what print.sh printed, with my contracts of what it calls. -/
import Derived.Test.YtlcdffhhimbbmaaDoorShimLog
namespace Go.Proofs.YtlcdffhhimbbmaaDoor.PFnValidLog
open Go Go.RowKit Go.Proofs.YtlcdffhhimbbmaaDoorW.PrintWords Go.Proofs.YtlcdffhhimbbmaaDoorW.PrintLast Go.Proofs.YtlcdffhhimbbmaaDoorW.PrintMore
attribute [local go_sem] max2_int min2_int max_two min_two max_three min_three max_four min_four
set_option linter.unusedVariables false
set_option linter.unusedSimpArgs false
def laws_FnValidLogTwice.j0 : Nat → List (S41) → List (S30) → Bool → Bool → Option (Bool)
 | 0, _, _, _, _ => none
 | k + 1, x3, x4, x5, x31 => if x31 = true then ((spec_ValidLog.f k x3 x4).bind fun t534 => (some (x5 == t534))) else (if 0 < (x4.length : Int) then (if 0 ≤ (wrap64 ((x4.length : Int) - 1)) then (if (wrap64 ((x4.length : Int) - 1)) < (x4.length : Int) then ((some (([] : List (S30)) : List (S30))).bind fun y538 => (if y538.length + x4.length < 5864062014805 then ((some (y538 ++ x4 : List (S30))).bind fun y541 => ((some (([(⟨(rd_T30 x4 (wrap64 ((x4.length : Int) - 1))).f0, (rd_T30 x4 0).f1, (rd_T30 x4 0).f2⟩ : S30)] : List (S30)) : List (S30))).bind fun y544 => (if y541.length + y544.length < 5864062014805 then ((impl_ValidLog.f k x3 (y541 ++ y544)).bind fun t550 => (some (!t550))) else (none)))) else (none))) else (none)) else (none)) else (none))
def laws_FnValidLogTwice.f (k : Nat) (l0 : List Int) : Option (Bool) := if (l0.length : Int) > 1048576 then (some true) else ((spec_DrawValidLog.f k l0).bind fun bt526 => ((impl_ValidLog.f k bt526.1 bt526.2).bind fun t532 => ((spec_ValidLog.f k bt526.1 bt526.2).bind fun t533 => (if (t532 != t533) = true then (laws_FnValidLogTwice.j0 k bt526.1 bt526.2 t532 true) else (if t532 = true then (laws_FnValidLogTwice.j0 k bt526.1 bt526.2 t532 ((bt526.2.length : Int) == 0)) else (laws_FnValidLogTwice.j0 k bt526.1 bt526.2 t532 true))))))
def laws_FnValidLogTwice.T9 : Bool × List (List Nat × List Nat) := (true, [([], []), ([], []), ([], []), ([1, 2], [1, 2]), ([], []), ([4], [4]), ([3, 5, 3], [3, 5]), ([0, 6, 6], [0, 6]), ([7], [7]), ([8, 7, 0, 1, 2, 3, 4, 5, 6, 7, 8], [8])])
def laws_FnValidLogTwice.B9 : List Nat := [0, 0, 0, 6, 0, 16, 62, 127, 255, 511]
theorem laws_FnValidLogTwice.tab9 : rtab .any (opsOf Tryd.f4 9) = laws_FnValidLogTwice.T9 := by kernel_rfl
theorem laws_FnValidLogTwice.bits9 : waitsOk laws_FnValidLogTwice.T9.2 laws_FnValidLogTwice.B9 = true := by kernel_rfl
set_option maxHeartbeats 8000000 in
set_option maxRecDepth 100000 in
theorem laws_FnValidLogTwice.calls (k : Nat) (A0 : Option Addr) (c0 : Nat) (l0 : List Int) (r : Bool) (w : World) (hT : Tab w) (hr0 : Kd.C (Kd.int .u8) w A0 l0.length l0) (hc0 : l0.length ≤ c0) (h : laws_FnValidLogTwice.f k l0 = some r) :
  Calls Tryd.prog 4 #[.slice A0 l0.length c0] w fun e w' => e = .returned (.bool r) ∧ Below w.heap.size w w' := by
 have HT := mk0 hT
 clear hT
 have hu30 := Tryd.underlying30
 have HR0 := mk0 hr0
 have HC0 := mk0 hc0
 clear hr0 hc0
 have HB := mk0 (Below.refl w.heap.size w)
 have H : (if (l0.length : Int) > 1048576 then (some true) else ((spec_DrawValidLog.f k l0).bind fun bt526 => ((impl_ValidLog.f k bt526.1 bt526.2).bind fun t532 => ((spec_ValidLog.f k bt526.1 bt526.2).bind fun t533 => (if (t532 != t533) = true then (laws_FnValidLogTwice.j0 k bt526.1 bt526.2 t532 true) else (if t532 = true then (laws_FnValidLogTwice.j0 k bt526.1 bt526.2 t532 ((bt526.2.length : Int) == 0)) else (laws_FnValidLogTwice.j0 k bt526.1 bt526.2 t532 true))))))) = some r := h
 clear h
 by_cases c2 : (l0.length : Int) > 1048576
 ·
  rw [if_pos c2] at H
  have c2b0 : decide (1048576 < (l0.length : Int)) = true := decide_eq_true c2
  have c2b1 : decide (1048576 < l0.length) = true := decide_eq_true (by omega)
  clear c2
  obtain rfl := Option.some.inj H
  go_enter Tryd.func4, Tryd.ntmps4
  go_wp2
  go_ret
  exact ⟨by first | rfl | (simp [errW_none, errW_some] <;> rfl) | (simp [*, errW_none, errW_some] <;> rfl), by with_reducible repeat (first | exact HB.out | apply ba_ | apply bn_ | apply bd_)⟩
 ·
  rw [if_neg c2] at H
  have c2b0 : decide (1048576 < (l0.length : Int)) = false := decide_eq_false c2
  have c2b1 : decide (1048576 < l0.length) = false := decide_eq_false (by omega)
  clear c2
  replace H := bE_ H
  obtain ⟨⟨t526, t529⟩, A30, H⟩ := H
  have A3 := mk0 A30
  clear A30
  replace H := bE_ H
  obtain ⟨t532, A40, H⟩ := H
  have A4 := mk0 A40
  clear A40
  have HC5 := mk0 H
  clear H
  go_enter Tryd.func4, Tryd.ntmps4
  go_upto_region 5 with (first | ((with_reducible refine gate_callee (f := 9) rfl ?_); refine goesL_ (some 12) rfl rfl Tryd.func9 (by kernel_rfl) rfl #[.slice A0 l0.length c0] rfl (by (try simp only [List.map_toArray, List.map_cons, List.map_nil]); first | done | rfl | (simp only [List.length_drop, List.length_take]; rfl)) ?_; (with_reducible refine (spec_DrawValidLog.calls k _ _ l0 t526 t529 _ ?side1 ?side2 A3.out).mono ?_); (case side1 => repeat (first | exact HR0.out | (with_reducible first | refine Ca_ ?_ _ | refine Cn_ ?_ _ | refine Cd_ ?_))); (case side2 => exact HC0.out); rintro e w6 ⟨v527, v530, rfl, ho0, ho1, hb⟩; refine ⟨_, rfl, ?_⟩; have HO528 := mk0 (Kd.N_lower (Kd.N_mono (ok' := fun k_ => some k_ ≠ (v530 : Value).ownBlock) ho0 (fun k_ hk_ => hk_.2)) (below_size (by with_reducible repeat (first | exact HB.out | apply ba_ | apply bn_ | apply bd_)))); have HO531 := mk0 (Kd.R_lower (Kd.R_mono (ok' := fun k_ => True) ho1 (fun _ hk_ => trivial)) (below_size (by with_reducible repeat (first | exact HB.out | apply ba_ | apply bn_ | apply bd_)))); replace HB := mk0 (below_step (by with_reducible repeat (first | exact HB.out | apply ba_ | apply bn_ | apply bd_)) hb); clear hb ho0 ho1; obtain ⟨Ao7, co7, eo7⟩ := Kd.N_slice HO528.out; subst eo7; obtain ⟨Ao8, co8, eo8⟩ := Kd.R_slice HO531.out; subst eo8) | ((with_reducible refine gate_callee (f := 10) rfl ?_); refine goesL_ (some 17) rfl rfl Tryd.func10 (by kernel_rfl) rfl #[.slice Ao7 t526.length co7, .slice Ao8 t529.length co8] rfl (by (try simp only [List.map_toArray, List.map_cons, List.map_nil]); first | done | rfl | (simp only [List.length_drop, List.length_take]; rfl)) ?_; (with_reducible refine (impl_ValidLog.calls k _ _ t526 _ _ t529 t532 _ ?side1 ?side2 ?side3 ?side4 ?side99 A4.out).mono ?_); (case side99 => exact Tab.keep HT.out HT.out.lt (by with_reducible repeat (first | exact HB.out | apply ba_ | apply bn_ | apply bd_))); (case side1 => repeat (first | exact (Kd.N_reads' HO528.out).2.2 | (with_reducible first | refine Ca_ ?_ _ | refine Cn_ ?_ _ | refine Cd_ ?_))); (case side2 => exact (Kd.N_reads' HO528.out).2.1); (case side3 => repeat (first | exact (Kd.R_reads' HO531.out).2.2 | (with_reducible first | refine Ca_ ?_ _ | refine Cn_ ?_ _ | refine Cd_ ?_))); (case side4 => exact (Kd.R_reads' HO531.out).2.1); rintro e w9 ⟨rfl, hb⟩; refine ⟨_, rfl, ?_⟩; replace HO528 := mk0 (Kd.N_below (by (with_reducible repeat (first | apply Na_ | apply Nn_ | apply Nd_)); exact HO528.out) hb); replace HO531 := mk0 (Kd.R_below (by (with_reducible repeat (first | apply Ra_ | apply Rn_ | apply Rd_)); exact HO531.out) hb); replace HB := mk0 (below_step (by with_reducible repeat (first | exact HB.out | apply ba_ | apply bn_ | apply bd_)) hb); clear hb))
  (try simp only [Act.put, List.setIfInBounds_toArray, List.set_cons_zero, List.set_cons_succ])
  go_cut [31] (fun v31 wc => ∃ (kq : Nat) (x31_4 : Bool), v31 = .bool x31_4 ∧ Aside0 (laws_FnValidLogTwice.j0 kq t526 t529 t532 x31_4 = some r) ∧ Aside0 (kq ≤ k) ∧ Aside0 (Kd.N k41 41 wc w.heap.size (fun k_ => some k_ ≠ ((.slice Ao8 t529.length co8) : Value).ownBlock) (.slice Ao7 t526.length co7) t526) ∧ Aside0 (Kd.R k30 30 wc w.heap.size (fun _ => True) (.slice Ao8 t529.length co8) t529) ∧ Aside0 (Below w.heap.size w wc))
  case first =>
   have H := HC5.out
   clear HC5
   replace H := bE_ H
   obtain ⟨t533, A100, H⟩ := H
   have A10 := mk0 A100
   clear A100
   by_cases c11 : (t532 != t533) = true
   ·
    rw [if_pos c11] at H
    have c11b0 : (t532 != t533) = true := c11
    (try (have c11b1 : decide (t532 = t533) = false := by simpa using c11))
    (try (have c11b2 : (t532 == t533) = false := by simpa using c11))
    (try (have c11b3 : ¬ (t532 = t533) := by simpa using c11))
    clear c11
    (first | rw [c11b0] | (simp only [i64_w, i32_w]; rw [c11b0]) | skip)
    have H' := mk0 H
    clear H
    go_wp2_with (first | ((with_reducible refine gate_callee (f := 11) rfl ?_); refine goesL_ (some 21) rfl rfl Tryd.func11 (by kernel_rfl) rfl #[.slice Ao7 t526.length co7, .slice Ao8 t529.length co8] rfl (by (try simp only [List.map_toArray, List.map_cons, List.map_nil]); first | done | rfl | (simp only [List.length_drop, List.length_take]; rfl)) ?_; (with_reducible refine (spec_ValidLog.calls k _ _ t526 _ _ t529 t533 _ ?side1 ?side2 ?side3 ?side4 A10.out).mono ?_); (case side1 => repeat (first | exact (Kd.N_reads' HO528.out).2.2 | (with_reducible first | refine Ca_ ?_ _ | refine Cn_ ?_ _ | refine Cd_ ?_))); (case side2 => exact (Kd.N_reads' HO528.out).2.1); (case side3 => repeat (first | exact (Kd.R_reads' HO531.out).2.2 | (with_reducible first | refine Ca_ ?_ _ | refine Cn_ ?_ _ | refine Cd_ ?_))); (case side4 => exact (Kd.R_reads' HO531.out).2.1); rintro e w12 ⟨rfl, hb⟩; refine ⟨_, rfl, ?_⟩; replace HO528 := mk0 (Kd.N_below (by (with_reducible repeat (first | apply Na_ | apply Nn_ | apply Nd_)); exact HO528.out) hb); replace HO531 := mk0 (Kd.R_below (by (with_reducible repeat (first | apply Ra_ | apply Rn_ | apply Rd_)); exact HO531.out) hb); replace HB := mk0 (below_step (by with_reducible repeat (first | exact HB.out | apply ba_ | apply bn_ | apply bd_)) hb); clear hb))
    go_meet
    case rel => exact ⟨_, (true), (by first | rfl | (simp; done) | (simp [*]; done)), H', ⟨by first | omega | exact Nat.le_refl _⟩, ⟨by (with_reducible repeat (first | apply Na_ | apply Nn_ | apply Nd_)); exact HO528.out⟩, ⟨by (with_reducible repeat (first | apply Ra_ | apply Rn_ | apply Rd_)); exact HO531.out⟩, ⟨by with_reducible repeat (first | exact HB.out | apply ba_ | apply bn_ | apply bd_)⟩⟩
   ·
    rw [if_neg c11] at H
    have c11b0 : (t532 != t533) = false := by simpa using c11
    (try (have c11b1 : decide (t532 = t533) = true := by simpa using c11))
    (try (have c11b2 : (t532 == t533) = true := by simpa using c11))
    clear c11
    (first | rw [c11b0] | (simp only [i64_w, i32_w]; rw [c11b0]) | skip)
    by_cases c13 : t532 = true
    ·
     subst c13
     rw [if_pos rfl] at H
     have H' := mk0 H
     clear H
     go_wp2_with (first | ((with_reducible refine gate_callee (f := 11) rfl ?_); refine goesL_ (some 21) rfl rfl Tryd.func11 (by kernel_rfl) rfl #[.slice Ao7 t526.length co7, .slice Ao8 t529.length co8] rfl (by (try simp only [List.map_toArray, List.map_cons, List.map_nil]); first | done | rfl | (simp only [List.length_drop, List.length_take]; rfl)) ?_; (with_reducible refine (spec_ValidLog.calls k _ _ t526 _ _ t529 t533 _ ?side1 ?side2 ?side3 ?side4 A10.out).mono ?_); (case side1 => repeat (first | exact (Kd.N_reads' HO528.out).2.2 | (with_reducible first | refine Ca_ ?_ _ | refine Cn_ ?_ _ | refine Cd_ ?_))); (case side2 => exact (Kd.N_reads' HO528.out).2.1); (case side3 => repeat (first | exact (Kd.R_reads' HO531.out).2.2 | (with_reducible first | refine Ca_ ?_ _ | refine Cn_ ?_ _ | refine Cd_ ?_))); (case side4 => exact (Kd.R_reads' HO531.out).2.1); rintro e w14 ⟨rfl, hb⟩; refine ⟨_, rfl, ?_⟩; replace HO528 := mk0 (Kd.N_below (by (with_reducible repeat (first | apply Na_ | apply Nn_ | apply Nd_)); exact HO528.out) hb); replace HO531 := mk0 (Kd.R_below (by (with_reducible repeat (first | apply Ra_ | apply Rn_ | apply Rd_)); exact HO531.out) hb); replace HB := mk0 (below_step (by with_reducible repeat (first | exact HB.out | apply ba_ | apply bn_ | apply bd_)) hb); clear hb))
     go_meet
     case rel => exact ⟨_, (((t529.length : Int) == 0)), (by first | rfl | (simp; done) | (simp [*]; done)), H', ⟨by first | omega | exact Nat.le_refl _⟩, ⟨by (with_reducible repeat (first | apply Na_ | apply Nn_ | apply Nd_)); exact HO528.out⟩, ⟨by (with_reducible repeat (first | apply Ra_ | apply Rn_ | apply Rd_)); exact HO531.out⟩, ⟨by with_reducible repeat (first | exact HB.out | apply ba_ | apply bn_ | apply bd_)⟩⟩
    ·
     replace c13 := Bool.eq_false_iff.mpr c13
     subst c13
     rw [if_neg (show ¬ (false = true) by decide)] at H
     have H' := mk0 H
     clear H
     go_wp2_with (first | ((with_reducible refine gate_callee (f := 11) rfl ?_); refine goesL_ (some 21) rfl rfl Tryd.func11 (by kernel_rfl) rfl #[.slice Ao7 t526.length co7, .slice Ao8 t529.length co8] rfl (by (try simp only [List.map_toArray, List.map_cons, List.map_nil]); first | done | rfl | (simp only [List.length_drop, List.length_take]; rfl)) ?_; (with_reducible refine (spec_ValidLog.calls k _ _ t526 _ _ t529 t533 _ ?side1 ?side2 ?side3 ?side4 A10.out).mono ?_); (case side1 => repeat (first | exact (Kd.N_reads' HO528.out).2.2 | (with_reducible first | refine Ca_ ?_ _ | refine Cn_ ?_ _ | refine Cd_ ?_))); (case side2 => exact (Kd.N_reads' HO528.out).2.1); (case side3 => repeat (first | exact (Kd.R_reads' HO531.out).2.2 | (with_reducible first | refine Ca_ ?_ _ | refine Cn_ ?_ _ | refine Cd_ ?_))); (case side4 => exact (Kd.R_reads' HO531.out).2.1); rintro e w15 ⟨rfl, hb⟩; refine ⟨_, rfl, ?_⟩; replace HO528 := mk0 (Kd.N_below (by (with_reducible repeat (first | apply Na_ | apply Nn_ | apply Nd_)); exact HO528.out) hb); replace HO531 := mk0 (Kd.R_below (by (with_reducible repeat (first | apply Ra_ | apply Rn_ | apply Rd_)); exact HO531.out) hb); replace HB := mk0 (below_step (by with_reducible repeat (first | exact HB.out | apply ba_ | apply bn_ | apply bd_)) hb); clear hb))
     go_meet
     case rel => exact ⟨_, (true), (by first | rfl | (simp; done) | (simp [*]; done)), H', ⟨by first | omega | exact Nat.le_refl _⟩, ⟨by (with_reducible repeat (first | apply Na_ | apply Nn_ | apply Nd_)); exact HO528.out⟩, ⟨by (with_reducible repeat (first | apply Ra_ | apply Rn_ | apply Rd_)); exact HO531.out⟩, ⟨by with_reducible repeat (first | exact HB.out | apply ba_ | apply bn_ | apply bd_)⟩⟩
  case rest =>
   clear HC5
   try clear c1
   try clear c2
   try clear c2b0
   try clear c2b1
   try clear p2
   try clear c4
   try clear c9
   try clear c10
   try clear c11
   try clear c11b0
   try clear c11b1
   try clear c11b2
   try clear c13
   obtain ⟨kq, x31_4, rfl, HA, HJ4, HO_3, HO_4, HB⟩ := hcut
   cases kq with
   | zero => exact absurd HA.out (by simp [laws_FnValidLogTwice.j0])
   | succ kj4 =>
    have H := HA.out
    clear HA
    simp only [laws_FnValidLogTwice.j0] at H
    by_cases c16 : x31_4 = true
    ·
     subst c16
     rw [if_pos rfl] at H
     replace H := bE_ H
     obtain ⟨t534, A170, H⟩ := H
     have A17 := mk0 A170
     clear A170
     obtain rfl := Option.some.inj H
     go_wp2_with (first | ((with_reducible refine gate_callee (f := 11) rfl ?_); refine goesL_ (some 35) rfl rfl Tryd.func11 (by kernel_rfl) rfl #[.slice Ao7 t526.length co7, .slice Ao8 t529.length co8] rfl (by (try simp only [List.map_toArray, List.map_cons, List.map_nil]); first | done | rfl | (simp only [List.length_drop, List.length_take]; rfl)) ?_; (with_reducible refine (spec_ValidLog.calls kj4 _ _ t526 _ _ t529 t534 _ ?side1 ?side2 ?side3 ?side4 A17.out).mono ?_); (case side1 => repeat (first | exact (Kd.N_reads' HO_3.out).2.2 | (with_reducible first | refine Ca_ ?_ _ | refine Cn_ ?_ _ | refine Cd_ ?_))); (case side2 => exact (Kd.N_reads' HO_3.out).2.1); (case side3 => repeat (first | exact (Kd.R_reads' HO_4.out).2.2 | (with_reducible first | refine Ca_ ?_ _ | refine Cn_ ?_ _ | refine Cd_ ?_))); (case side4 => exact (Kd.R_reads' HO_4.out).2.1); rintro e w18 ⟨rfl, hb⟩; refine ⟨_, rfl, ?_⟩; replace HO_3 := mk0 (Kd.N_below (by (with_reducible repeat (first | apply Na_ | apply Nn_ | apply Nd_)); exact HO_3.out) hb); replace HO_4 := mk0 (Kd.R_below (by (with_reducible repeat (first | apply Ra_ | apply Rn_ | apply Rd_)); exact HO_4.out) hb); replace HB := mk0 (below_step (by with_reducible repeat (first | exact HB.out | apply ba_ | apply bn_ | apply bd_)) hb); clear hb))
     go_ret
     exact ⟨by first | rfl | (simp [errW_none, errW_some] <;> rfl) | (simp [*, errW_none, errW_some] <;> rfl), by with_reducible repeat (first | exact HB.out | apply ba_ | apply bn_ | apply bd_)⟩
    ·
     replace c16 := Bool.eq_false_iff.mpr c16
     subst c16
     rw [if_neg (show ¬ (false = true) by decide)] at H
     by_cases c19 : 0 < (t529.length : Int)
     ·
      rw [if_pos c19] at H
      have c19b0 : decide (0 < (t529.length : Int)) = true := decide_eq_true c19
      have c19b1 : decide (0 < t529.length) = true := decide_eq_true (by omega)
      clear c19
      obtain ⟨ji20, hji20⟩ : ∃ j_ : Int, (wrap64 ((t529.length : Int) - 1)) = j_ := ⟨_, rfl⟩
      replace H : (if 0 ≤ (ji20) then (if (ji20) < (t529.length : Int) then ((some (([] : List (S30)) : List (S30))).bind fun y538 => (if y538.length + t529.length < 5864062014805 then ((some (y538 ++ t529 : List (S30))).bind fun y541 => ((some (([(⟨(rd_T30 t529 (ji20)).f0, (rd_T30 t529 0).f1, (rd_T30 t529 0).f2⟩ : S30)] : List (S30)) : List (S30))).bind fun y544 => (if y541.length + y544.length < 5864062014805 then ((impl_ValidLog.f kj4 t526 (y541 ++ y544)).bind fun t550 => (some (!t550))) else (none)))) else (none))) else (none)) else (none)) = some r := by first | (rw [hji20] at H; exact H) | (simp only [hji20] at H ⊢; exact H)
      have hji20w : (IntKind.i64.wrap ((t529.length : Int) - 1)) = ji20 := (i64_w _).trans hji20
      by_cases c21 : 0 ≤ (ji20)
      ·
       rw [if_pos c21] at H
       have c21b0 : decide (0 ≤ (ji20)) = true := decide_eq_true c21
       clear c21
       by_cases c22 : (ji20) < (t529.length : Int)
       ·
        rw [if_pos c22] at H
        have c22b0 : decide ((ji20) < (t529.length : Int)) = true := decide_eq_true c22
        clear c22
        obtain ⟨y538, hy538⟩ : ∃ y_ : List (S30), y_ = (([] : List (S30))) := ⟨_, rfl⟩
        replace H : (if y538.length + t529.length < 5864062014805 then ((some (y538 ++ t529 : List (S30))).bind fun y541 => ((some (([(⟨(rd_T30 t529 (ji20)).f0, (rd_T30 t529 0).f1, (rd_T30 t529 0).f2⟩ : S30)] : List (S30)) : List (S30))).bind fun y544 => (if y541.length + y544.length < 5864062014805 then ((impl_ValidLog.f kj4 t526 (y541 ++ y544)).bind fun t550 => (some (!t550))) else (none)))) else (none)) = some r := by first | (rw [hy538]; with_reducible exact H) | (rw [hy538]; exact (Option.bind_some _ _).symm.trans H) | (rw [hy538]; exact H) | exact H
        have Ny538 := mk0 hy538
        clear hy538
        by_cases c23 : y538.length + t529.length < 5864062014805
        ·
         rw [if_pos c23] at H
         have LMc23 := mk0 c23
         clear c23
         obtain ⟨y541, hy541⟩ : ∃ y_ : List (S30), y_ = (y538 ++ t529) := ⟨_, rfl⟩
         replace H : ((some (([(⟨(rd_T30 t529 (ji20)).f0, (rd_T30 t529 0).f1, (rd_T30 t529 0).f2⟩ : S30)] : List (S30)) : List (S30))).bind fun y544 => (if y541.length + y544.length < 5864062014805 then ((impl_ValidLog.f kj4 t526 (y541 ++ y544)).bind fun t550 => (some (!t550))) else (none))) = some r := by first | (rw [hy541]; with_reducible exact H) | (rw [hy541]; exact (Option.bind_some _ _).symm.trans H) | (rw [hy541]; exact H) | exact H
         have Ny541 := mk0 hy541
         clear hy541
         obtain ⟨y544, hy544⟩ : ∃ y_ : List (S30), y_ = (([(⟨(rd_T30 t529 (ji20)).f0, (rd_T30 t529 0).f1, (rd_T30 t529 0).f2⟩ : S30)] : List (S30))) := ⟨_, rfl⟩
         replace H : (if y541.length + y544.length < 5864062014805 then ((impl_ValidLog.f kj4 t526 (y541 ++ y544)).bind fun t550 => (some (!t550))) else (none)) = some r := by first | (rw [hy544]; with_reducible exact H) | (rw [hy544]; exact (Option.bind_some _ _).symm.trans H) | (rw [hy544]; exact H) | exact H
         have Ny544 := mk0 hy544
         clear hy544
         by_cases c24 : y541.length + y544.length < 5864062014805
         ·
          rw [if_pos c24] at H
          have LMc24 := mk0 c24
          clear c24
          obtain ⟨y547, hy547⟩ : ∃ y_ : List (S30), y_ = (y541 ++ y544) := ⟨_, rfl⟩
          replace H : ((impl_ValidLog.f kj4 t526 y547).bind fun t550 => (some (!t550))) = some r := by first | (rw [hy547]; with_reducible exact H) | (rw [hy547]; exact (Option.bind_some _ _).symm.trans H) | (rw [hy547]; exact H) | exact H
          have Ny547 := mk0 hy547
          clear hy547
          replace H := bE_ H
          obtain ⟨t550, A250, H⟩ := H
          have A25 := mk0 A250
          clear A250
          obtain rfl := Option.some.inj H
          have p535 : 0 ≤ (0 : Int) := (by omega)
          have q535 : 0 < (t529.length : Int) := od_ (by with_reducible assumption)
          obtain ⟨ad535, e535, hx535_0, hx535_1, hx535_2⟩ := at_T30 (Kd.R_reads' HO_4.out).2.2 0 p535 q535
          cases e535
          have qi535 : (0 < t529.length) = True := eq_true (by omega)
          (try rw [show ((0 : Int)).toNat = 0 from rfl] at hx535_0)
          (try rw [show 0 * 3 = 0 from rfl] at hx535_0)
          (try rw [Addr.add_zero'] at hx535_0)
          (try rw [show ((0 : Int)).toNat = 0 from rfl] at hx535_1)
          (try rw [show 0 * 3 = 0 from rfl] at hx535_1)
          (try rw [Addr.add_zero'] at hx535_1)
          (try rw [show ((0 : Int)).toNat = 0 from rfl] at hx535_2)
          (try rw [show 0 * 3 = 0 from rfl] at hx535_2)
          (try rw [Addr.add_zero'] at hx535_2)
          replace p535 := eq_true p535
          replace q535 := eq_true q535
          try go_wp2_with (first | ((with_reducible refine gate_dst (N := 6) rfl ?_); (try (refine gate_guard (by rfl) ?_; dsimp only)); refine box_event ?hg (N := 6) ?hd (cs := #[.int .i64 0, .int .i64 0, .bool false]) (t := 30) ?hr ?_; (case hd => rfl); (case hg => rfl); (case hr => first | (go_simp; done) | (go_simp; rfl)); intro gb536 hg w26 hbox hb; replace HO_3 := mk0 (Kd.N_below (Kd.N_elderB (by (with_reducible repeat (first | apply Na_ | apply Nn_ | apply Nd_)); exact HO_3.out) gb536 (Nat.le_of_eq hg.symm)) hb); replace HO_4 := mk0 (Kd.R_below (Kd.R_elderB (by (with_reducible repeat (first | apply Ra_ | apply Rn_ | apply Rd_)); exact HO_4.out) gb536 (Nat.le_of_eq hg.symm)) hb); have BK536 := mk0 (hbox); have GW536 := mk0 ((by rw [hg]; exact (below_size (by with_reducible repeat (first | exact HB.out | apply ba_ | apply bn_ | apply bd_))) : w.heap.size ≤ gb536)); have GE536 := mk0 ((by rw [hg]; exact (below_size (by with_reducible repeat (first | exact HB.out | apply ba_ | apply bn_ | apply bd_))) : w.heap.size ≤ gb536)); replace HB := mk0 (below_step (by with_reducible repeat (first | exact HB.out | apply ba_ | apply bn_ | apply bd_)) hb); clear hb hbox hg; have hcz27_0 : w26.cell? ⟨gb536, 0, none⟩ = some (.int .i64 0) := (blk_cell BK536.out 0).trans rfl; have hcz27_1 : w26.cell? ⟨gb536, 1, none⟩ = some (.int .i64 0) := (blk_cell BK536.out 1).trans rfl; have hcz27_2 : w26.cell? ⟨gb536, 2, none⟩ = some (.bool false) := (blk_cell BK536.out 2).trans rfl; have hfz27_0 := blk_frozen BK536.out 0; have hfz27_1 := blk_frozen BK536.out 1; have hfz27_2 := blk_frozen BK536.out 2; have p537 : 0 ≤ ((ji20) : Int) := od_ (by with_reducible assumption); have q537 : (ji20) < (t529.length : Int) := od_ (by with_reducible assumption); obtain ⟨ad537, e537, hx537_0, hx537_1, hx537_2⟩ := at_T30 (Kd.R_reads' HO_4.out).2.2 (ji20) p537 q537; obtain rfl : ad535 = ad537 := (by injection e537); have hn537_0 : ad535.block ≠ gb536 := Kd.own_blk (Kd.R_away HO_4.out (fun _ hk => hk.2)); have hn537_1 : ad535.block ≠ gb536 := Kd.own_blk (Kd.R_away HO_4.out (fun _ hk => hk.2)); have hn537_2 : ad535.block ≠ gb536 := Kd.own_blk (Kd.R_away HO_4.out (fun _ hk => hk.2)); replace hx537_0 := (cell_far (p := ⟨gb536, 0, none⟩) (by first | (rw [add_block]; exact hn537_0) | (show (Addr.add _ _).block ≠ _; rw [add_block]; exact hn537_0) | exact hn537_0) (.int .i64 ((rd_T30 t529 0).f0))).trans hx537_0; replace hx537_1 := (cell_far (p := ⟨gb536, 0, none⟩) (by first | (rw [add_block]; exact hn537_0) | (show (Addr.add _ _).block ≠ _; rw [add_block]; exact hn537_0) | exact hn537_0) (.int .i64 ((rd_T30 t529 0).f0))).trans hx537_1; replace hx537_2 := (cell_far (p := ⟨gb536, 0, none⟩) (by first | (rw [add_block]; exact hn537_0) | (show (Addr.add _ _).block ≠ _; rw [add_block]; exact hn537_0) | exact hn537_0) (.int .i64 ((rd_T30 t529 0).f0))).trans hx537_2; replace hx537_0 := (cell_far (p := ⟨gb536, 1, none⟩) (by first | (rw [add_block]; exact hn537_1) | (show (Addr.add _ _).block ≠ _; rw [add_block]; exact hn537_1) | exact hn537_1) (.int .i64 ((rd_T30 t529 0).f1))).trans hx537_0; replace hx537_1 := (cell_far (p := ⟨gb536, 1, none⟩) (by first | (rw [add_block]; exact hn537_1) | (show (Addr.add _ _).block ≠ _; rw [add_block]; exact hn537_1) | exact hn537_1) (.int .i64 ((rd_T30 t529 0).f1))).trans hx537_1; replace hx537_2 := (cell_far (p := ⟨gb536, 1, none⟩) (by first | (rw [add_block]; exact hn537_1) | (show (Addr.add _ _).block ≠ _; rw [add_block]; exact hn537_1) | exact hn537_1) (.int .i64 ((rd_T30 t529 0).f1))).trans hx537_2; replace hx537_0 := (cell_far (p := ⟨gb536, 2, none⟩) (by first | (rw [add_block]; exact hn537_2) | (show (Addr.add _ _).block ≠ _; rw [add_block]; exact hn537_2) | exact hn537_2) (.bool ((rd_T30 t529 0).f2))).trans hx537_0; replace hx537_1 := (cell_far (p := ⟨gb536, 2, none⟩) (by first | (rw [add_block]; exact hn537_2) | (show (Addr.add _ _).block ≠ _; rw [add_block]; exact hn537_2) | exact hn537_2) (.bool ((rd_T30 t529 0).f2))).trans hx537_1; replace hx537_2 := (cell_far (p := ⟨gb536, 2, none⟩) (by first | (rw [add_block]; exact hn537_2) | (show (Addr.add _ _).block ≠ _; rw [add_block]; exact hn537_2) | exact hn537_2) (.bool ((rd_T30 t529 0).f2))).trans hx537_2; clear hn537_0; clear hn537_1; clear hn537_2; replace p537 := eq_true p537; replace q537 := eq_true q537))
          have n0_ : Aside0 (Kd.N k41 41 ((((w26.setCell ⟨gb536, 0, none⟩ (.int .i64 ((rd_T30 t529 0).f0))).setCell ⟨gb536, 1, none⟩ (.int .i64 ((rd_T30 t529 0).f1))).setCell ⟨gb536, 2, none⟩ (.bool ((rd_T30 t529 0).f2))).setCell ⟨gb536, 0, none⟩ (.int .i64 ((rd_T30 t529 (ji20)).f0))) w.heap.size (fun k_ => some k_ ≠ (.slice (some ad535) t529.length co8 : Value).ownBlock ∧ k_ ≠ gb536) (.slice Ao7 t526.length co7) t526) := ⟨by (with_reducible repeat (first | apply Na_ | apply Nn_ | apply Nd_)); exact Kd.N_mono (Kd.N_far (p := ⟨gb536, 0, none⟩) (Kd.N_far (p := ⟨gb536, 2, none⟩) (Kd.N_far (p := ⟨gb536, 1, none⟩) (Kd.N_far (p := ⟨gb536, 0, none⟩) (Kd.N_mono HO_3.out (fun k_ hk => (⟨hk, hk.2⟩ : _ ∧ k_ ≠ gb536))) (fun _ hk => hk.2) (.int .i64 ((rd_T30 t529 0).f0))) (fun _ hk => hk.2) (.int .i64 ((rd_T30 t529 0).f1))) (fun _ hk => hk.2) (.bool ((rd_T30 t529 0).f2))) (fun _ hk => hk.2) (.int .i64 ((rd_T30 t529 (ji20)).f0))) (fun _ hk => ⟨hk.1.1, hk.1.2⟩)⟩
          have n1_ : Aside0 (Kd.R k30 30 ((((w26.setCell ⟨gb536, 0, none⟩ (.int .i64 ((rd_T30 t529 0).f0))).setCell ⟨gb536, 1, none⟩ (.int .i64 ((rd_T30 t529 0).f1))).setCell ⟨gb536, 2, none⟩ (.bool ((rd_T30 t529 0).f2))).setCell ⟨gb536, 0, none⟩ (.int .i64 ((rd_T30 t529 (ji20)).f0))) w.heap.size (fun k_ => k_ ≠ gb536) (.slice (some ad535) t529.length co8) t529) := ⟨by (with_reducible repeat (first | apply Ra_ | apply Rn_ | apply Rd_)); exact Kd.R_mono (Kd.R_far (p := ⟨gb536, 0, none⟩) (Kd.R_far (p := ⟨gb536, 2, none⟩) (Kd.R_far (p := ⟨gb536, 1, none⟩) (Kd.R_far (p := ⟨gb536, 0, none⟩) (Kd.R_mono HO_4.out (fun k_ hk => (⟨hk, hk.2⟩ : _ ∧ k_ ≠ gb536))) (fun _ hk => hk.2) (.int .i64 ((rd_T30 t529 0).f0))) (fun _ hk => hk.2) (.int .i64 ((rd_T30 t529 0).f1))) (fun _ hk => hk.2) (.bool ((rd_T30 t529 0).f2))) (fun _ hk => hk.2) (.int .i64 ((rd_T30 t529 (ji20)).f0))) (fun _ hk => hk.1.2)⟩
          have n2_ : Aside0 (((((w26.setCell ⟨gb536, 0, none⟩ (.int .i64 ((rd_T30 t529 0).f0))).setCell ⟨gb536, 1, none⟩ (.int .i64 ((rd_T30 t529 0).f1))).setCell ⟨gb536, 2, none⟩ (.bool ((rd_T30 t529 0).f2))).setCell ⟨gb536, 0, none⟩ (.int .i64 ((rd_T30 t529 (ji20)).f0))).heap[gb536]? = some (.cells #[.int .i64 ((rd_T30 t529 (ji20)).f0), .int .i64 ((rd_T30 t529 0).f1), .bool ((rd_T30 t529 0).f2)] 30 (0, 0))) := ⟨by (with_reducible repeat (first | refine blk_drewN ?_ _ | refine blk_drew ?_ | refine blk_alloc ?_ _)); refine blk_put (cs := #[.int .i64 ((rd_T30 t529 0).f0), .int .i64 ((rd_T30 t529 0).f1), .bool ((rd_T30 t529 0).f2)]) ?_ 0 _ rfl; (with_reducible repeat (first | refine blk_drewN ?_ _ | refine blk_drew ?_ | refine blk_alloc ?_ _)); refine blk_put (cs := #[.int .i64 ((rd_T30 t529 0).f0), .int .i64 ((rd_T30 t529 0).f1), .bool false]) ?_ 2 _ rfl; (with_reducible repeat (first | refine blk_drewN ?_ _ | refine blk_drew ?_ | refine blk_alloc ?_ _)); refine blk_put (cs := #[.int .i64 ((rd_T30 t529 0).f0), .int .i64 0, .bool false]) ?_ 1 _ rfl; (with_reducible repeat (first | refine blk_drewN ?_ _ | refine blk_drew ?_ | refine blk_alloc ?_ _)); refine blk_put (cs := #[.int .i64 0, .int .i64 0, .bool false]) ?_ 0 _ rfl; (with_reducible repeat (first | refine blk_drewN ?_ _ | refine blk_drew ?_ | refine blk_alloc ?_ _)); exact BK536.out⟩
          have n3_ : Aside0 (Below w.heap.size w ((((w26.setCell ⟨gb536, 0, none⟩ (.int .i64 ((rd_T30 t529 0).f0))).setCell ⟨gb536, 1, none⟩ (.int .i64 ((rd_T30 t529 0).f1))).setCell ⟨gb536, 2, none⟩ (.bool ((rd_T30 t529 0).f2))).setCell ⟨gb536, 0, none⟩ (.int .i64 ((rd_T30 t529 (ji20)).f0)))) := ⟨by with_reducible repeat (first | exact HB.out | apply ba_ | apply bn_ | apply bd_ | refine below_set ?_ GE536.out)⟩
          (try clear HO_3)
          (try clear HO_4)
          (try clear BK536)
          (try clear HB)
          generalize ((((w26.setCell ⟨gb536, 0, none⟩ (.int .i64 ((rd_T30 t529 0).f0))).setCell ⟨gb536, 1, none⟩ (.int .i64 ((rd_T30 t529 0).f1))).setCell ⟨gb536, 2, none⟩ (.bool ((rd_T30 t529 0).f2))).setCell ⟨gb536, 0, none⟩ (.int .i64 ((rd_T30 t529 (ji20)).f0))) = w28 at n0_ n1_ n2_ n3_ ⊢
          have HO_3 := n0_
          have HO_4 := n1_
          have BK536 := n2_
          have HB := n3_
          clear n0_ n1_ n2_ n3_
          replace HO_3 := mk0 (Kd.N_drew HO_3.out)
          replace HO_4 := mk0 (Kd.R_drew HO_4.out)
          replace BK536 := mk0 (blk_drew BK536.out)
          replace HB := mk0 (below_drew1 HB.out)
          refine start_ (n := 10) (S := fun w' => w'.cell? ⟨gb536, 0, none⟩ = some (.int .i64 ((rd_T30 t529 (ji20)).f0)) ∧ w'.cell? ⟨gb536, 1, none⟩ = some (.int .i64 ((rd_T30 t529 0).f1)) ∧ w'.cell? ⟨gb536, 2, none⟩ = some (.bool ((rd_T30 t529 0).f2))) (ds := []) #[false, false, false, false, false, false, false, false, false, false] (by kernel_rfl) rfl rfl ⟨(blk_cell BK536.out 0).trans rfl, (blk_cell BK536.out 1).trans rfl, (blk_cell BK536.out 2).trans rfl⟩ (fun hHeld => ?_); refine with_tabW laws_FnValidLogTwice.tab9 laws_FnValidLogTwice.bits9 (fun HT_ HW_ => ?_)
          generalize w28.drew = w29 at HO_3 HO_4 BK536 HB hHeld ⊢
          refine pure_ (i := 0) (N := some 48) (v := ?_) (a' := ?_) #[true, false, false, false, false, false, false, false, false, false] rfl rfl (any_of HT_.out (by kernel_rfl)) (fun _ _ _ h => h) (Or.inl ⟨by rfl, ?_⟩) ?_ ?_
          rotate_left
          ·
           intro w'
           go_simp
           with_reducible rfl
          rotate_left
          ·
           simp only [Act.put, List.setIfInBounds_toArray, List.set_cons_zero, List.set_cons_succ, i64_w, i32_w]
           rfl
          refine pure_ (i := 2) (N := some 50) (v := ?_) (a' := ?_) #[true, false, true, false, false, false, false, false, false, false] rfl rfl (any_of HT_.out (by kernel_rfl)) (fun _ _ _ h => h) (Or.inl ⟨by rfl, ?_⟩) ?_ ?_
          rotate_left
          ·
           intro w'
           go_simp
           with_reducible rfl
          rotate_left
          ·
           simp only [Act.put, List.setIfInBounds_toArray, List.set_cons_zero, List.set_cons_succ, i64_w, i32_w]
           rfl
          refine take_ (i := 4) (N := some 52) (v := ?_) (a' := ?_) #[true, false, true, false, true, false, false, false, false, false] rfl rfl (take_ofW HT_.out HW_.out (by kernel_rfl)) (fun _ _ _ h => h) (Or.inl ⟨by rfl, ?_⟩) hHeld ?_ ?_
          rotate_left
          ·
           rintro w' ⟨s0, s1, s2⟩
           go_simp
           with_reducible rfl
          rotate_left
          ·
           simp only [Act.put, List.setIfInBounds_toArray, List.set_cons_zero, List.set_cons_succ, i64_w, i32_w]
           rfl
          refine join_ (σ := Value × Value × Value) 4 #[true, true, true, true, true, true, false, false, false, false] (fun s_ => [(49, s_.1), (51, s_.2.1), (53, s_.2.2)]) (fun s_ w' => (w'.cell? ⟨gb536, 0, none⟩ = some (.int .i64 ((rd_T30 t529 (ji20)).f0)) ∧ w'.cell? ⟨gb536, 1, none⟩ = some (.int .i64 ((rd_T30 t529 0).f1)) ∧ w'.cell? ⟨gb536, 2, none⟩ = some (.bool ((rd_T30 t529 0).f2))) ∧ (Kd.R k30 30 w' w.heap.size (fun k_ => some k_ ≠ (s_.2.2 : Value).ownBlock ∧ some k_ ≠ (.slice (some ad535) t529.length co8 : Value).ownBlock ∧ k_ ≠ gb536) s_.2.1 y541) ∧ (Kd.R k30 30 w' w.heap.size (fun k_ => some k_ ≠ (s_.2.1 : Value).ownBlock ∧ some k_ ≠ (.slice (some ad535) t529.length co8 : Value).ownBlock ∧ k_ ≠ gb536) s_.2.2 y544) ∧ (Kd.N k41 41 w' w.heap.size (fun k_ => some k_ ≠ (s_.2.1 : Value).ownBlock ∧ some k_ ≠ (s_.2.2 : Value).ownBlock ∧ some k_ ≠ (.slice (some ad535) t529.length co8 : Value).ownBlock ∧ k_ ≠ gb536) (.slice Ao7 t526.length co7) t526) ∧ (Kd.R k30 30 w' w.heap.size (fun k_ => some k_ ≠ (s_.2.1 : Value).ownBlock ∧ some k_ ≠ (s_.2.2 : Value).ownBlock ∧ k_ ≠ gb536) (.slice (some ad535) t529.length co8) t529) ∧ (w'.heap[gb536]? = some (.cells #[.int .i64 ((rd_T30 t529 (ji20)).f0), .int .i64 ((rd_T30 t529 0).f1), .bool ((rd_T30 t529 0).f2)] 30 (0, 0))) ∧ (Below w.heap.size w w')) ?_ ?_
          rotate_left
          ·
           intro hCont
           refine two_ (i := 1) (j := 5) (Ni := some 49) (Nj := some 53) #[true, true, true, false, true, false, false, false, false, false] #[true, false, true, false, true, true, false, false, false, false] rfl rfl rfl rfl (two_of HT_.out (by kernel_rfl)) (by decide) (by decide) (fun K hK => ?_) (fun K hK => ?_)
           ·
            skip
            refine Kd.R_lit_step k30 _ 30 ?hg (N := 49) ?hd (xs := ([] : List (S30))) (inner := []) (ok := fun _ => True) (okp := fun _ => True) ?hr ?hp (fun _ hk => hk) trivial (Below.refl _ _) (Nat.le_refl _) (by simp) ?_; (case hd => rfl); (case hg => rfl); (case hr => first | (go_simp; done) | (go_simp; rfl)); (case hp => exact (Reps.none _ _))
            intro v539 w30 ho31 hb hg_ hnew_
            clear hg_ hnew_
            (first | rw [← Ny538.out] at ho31 | (simp only [Int.reduceToNat] at ho31; rw [← Ny538.out] at ho31))
            replace HO_3 := mk0 (Kd.N_elder' (by (with_reducible repeat (first | apply Na_ | apply Nn_ | apply Nd_)); exact HO_3.out) (Kd.R_base ho31) hb)
            have HO540 := mk0 (Kd.R_lower (Kd.R_newB (Kd.R_new' ho31 (Kd.R_lt (by (with_reducible repeat (first | apply Ra_ | apply Rn_ | apply Rd_)); exact HO_4.out))) (g := gb536) (o := .cells #[.int .i64 ((rd_T30 t529 (ji20)).f0), .int .i64 ((rd_T30 t529 0).f1), .bool ((rd_T30 t529 0).f2)] 30 (0, 0)) (by (with_reducible repeat (first | refine blk_drewN ?_ _ | refine blk_drew ?_ | refine blk_alloc ?_ _)); exact BK536.out)) (below_size (by with_reducible repeat (first | exact HB.out | apply ba_ | apply bn_ | apply bd_ | refine below_set ?_ GE536.out))))
            replace HO_4 := mk0 (Kd.R_elder' (by (with_reducible repeat (first | apply Ra_ | apply Rn_ | apply Rd_)); exact HO_4.out) (Kd.R_base ho31) hb)
            replace BK536 := mk0 (blk_below (g := gb536) (o := .cells #[.int .i64 ((rd_T30 t529 (ji20)).f0), .int .i64 ((rd_T30 t529 0).f1), .bool ((rd_T30 t529 0).f2)] 30 (0, 0)) (by (with_reducible repeat (first | refine blk_drewN ?_ _ | refine blk_drew ?_ | refine blk_alloc ?_ _)); exact BK536.out) hb)
            replace HB := mk0 (below_step (by with_reducible repeat (first | exact HB.out | apply ba_ | apply bn_ | apply bd_ | refine below_set ?_ GE536.out)) hb)
            clear hb ho31
            refine hK.out _ _ ⟨(blk_cell BK536.out 0).trans rfl, (blk_cell BK536.out 1).trans rfl, (blk_cell BK536.out 2).trans rfl⟩ (fun hHeld => ?_)
            clear hK K
            refine norm_ (a' := ?_) ?_ ?_
            rotate_left
            ·
             show Act.put _ (some 49) _ = _
             simp only [Act.put, List.setIfInBounds_toArray, List.set_cons_zero, List.set_cons_succ, i64_w, i32_w]
             rfl
            refine two_ (i := 3) (j := 5) (Ni := some 51) (Nj := some 53) #[true, true, true, true, true, false, false, false, false, false] #[true, true, true, false, true, true, false, false, false, false] rfl rfl rfl rfl (two_of HT_.out (by kernel_rfl)) (by decide) (by decide) (fun K hK => ?_) (fun K hK => ?_)
            ·
             skip
             refine Kd.R_append_rows_step k30 (w0 := w) w.heap.size (by rfl) (.tmp 49) (.tmp 50) 24 30 (.agg #[(.int .i64 0), (.int .i64 0), (.bool false)]) 24 rfl Tryd.underlying24 info30 rfl (by decide) (by omega) v539 y538 t529 _ _ _ (fun k_ => some k_ ≠ (.slice (some ad535) t529.length co8 : Value).ownBlock ∧ k_ ≠ gb536) (fun _ => False) rfl rfl ?aO ?aR (fun _ _ h => h) (fun _ h => h.elim) ?aF ?aB ?aS ?aL ?_
             (case aR => repeat (first | exact (Kd.R_reads' HO_4.out).2.2 | (with_reducible first | refine Ca_ ?_ _ | refine Cn_ ?_ _ | refine Cd_ ?_)))
             (case aB => exact (by with_reducible repeat (first | exact HB.out | apply ba_ | apply bn_ | apply bd_ | refine below_set ?_ GE536.out)))
             (case aF => exact (fun k_ hk => ⟨Kd.fresh' (Kd.R_lt (by (with_reducible repeat (first | apply Ra_ | apply Rn_ | apply Rd_)); exact HO_4.out)) k_ hk, Kd.freshB (g := gb536) (o := .cells #[.int .i64 ((rd_T30 t529 (ji20)).f0), .int .i64 ((rd_T30 t529 0).f1), .bool ((rd_T30 t529 0).f2)] 30 (0, 0)) (by (with_reducible repeat (first | refine blk_drewN ?_ _ | refine blk_drew ?_ | refine blk_alloc ?_ _)); exact BK536.out) k_ hk⟩))
             (case aO => exact (by (with_reducible repeat (first | apply Ra_ | apply Rn_ | apply Rd_)); exact Kd.R_mono HO540.out (fun _ hk => ⟨hk.1.2, hk.2⟩)))
             (case aS => exact (below_size (by with_reducible repeat (first | exact HB.out | apply ba_ | apply bn_ | apply bd_ | refine below_set ?_ GE536.out))))
             (case aL => have := LMc23.out; omega)
             intro v542 w32 ho hb hg hat
             rw [← Ny541.out] at ho
             replace HO_3 := mk0 (Kd.N_afterv (ok := (fun k_ => some k_ ≠ (.slice (some ad535) t529.length co8 : Value).ownBlock ∧ k_ ≠ gb536)) (by (with_reducible repeat (first | apply Na_ | apply Nn_ | apply Nd_)); exact HO_3.out) hg hat)
             replace HO_4 := mk0 (Kd.R_after (ok := (fun k_ => k_ ≠ gb536)) (by (with_reducible repeat (first | apply Ra_ | apply Rn_ | apply Rd_)); exact HO_4.out) hg hat)
             replace BK536 := mk0 (blk_grown (g := gb536) (o := .cells #[.int .i64 ((rd_T30 t529 (ji20)).f0), .int .i64 ((rd_T30 t529 0).f1), .bool ((rd_T30 t529 0).f2)] 30 (0, 0)) (by (with_reducible repeat (first | refine blk_drewN ?_ _ | refine blk_drew ?_ | refine blk_alloc ?_ _)); exact BK536.out) hg (Kd.R_away HO540.out (fun _ hk => hk.2)))
             replace HB := mk0 (hb)
             have HO543 := mk0 (ho)
             clear HO540
             clear ho hb hg hat
             refine hK.out _ _ ⟨(blk_cell BK536.out 0).trans rfl, (blk_cell BK536.out 1).trans rfl, (blk_cell BK536.out 2).trans rfl⟩ (fun hHeld => ?_)
             clear hK K
             refine norm_ (a' := ?_) ?_ ?_
             rotate_left
             ·
              show Act.put _ (some 51) _ = _
              simp only [Act.put, List.setIfInBounds_toArray, List.set_cons_zero, List.set_cons_succ, i64_w, i32_w]
              rfl
             refine one_ (i := 5) (N := some 53) #[true, true, true, true, true, true, false, false, false, false] rfl rfl (one_of HT_.out (by kernel_rfl)) (by decide) (fun K hK => ?_)
             refine Kd.R_lit_step k30 _ 30 ?hg (N := 53) ?hd (xs := ([(⟨(rd_T30 t529 (ji20)).f0, (rd_T30 t529 0).f1, (rd_T30 t529 0).f2⟩ : S30)] : List (S30))) (inner := [.int .i64 ((rd_T30 t529 (ji20)).f0), .int .i64 ((rd_T30 t529 0).f1), .bool ((rd_T30 t529 0).f2)]) (ok := fun _ => True) (okp := fun _ => True) ?hr ?hp (fun _ hk => hk) trivial (Below.refl _ _) (Nat.le_refl _) (by simp) ?_; (case hd => rfl); (case hg => rfl); (case hr => first | (go_simp; done) | (go_simp; rfl)); (case hp => exact (Reps.c3 (show Kd.M k30 _ _ _ (⟨(rd_T30 t529 (ji20)).f0, (rd_T30 t529 0).f1, (rd_T30 t529 0).f2⟩ : S30) [.int .i64 ((rd_T30 t529 (ji20)).f0), .int .i64 ((rd_T30 t529 0).f1), .bool ((rd_T30 t529 0).f2)] from (k30_mkM _ _ _ (⟨(rd_T30 t529 (ji20)).f0, (rd_T30 t529 0).f1, (rd_T30 t529 0).f2⟩ : S30) )) (Reps.none _ _)))
             intro v545 w33 ho34 hb hg_ hnew_
             clear hg_ hnew_
             (first | rw [← Ny544.out] at ho34 | (simp only [Int.reduceToNat] at ho34; rw [← Ny544.out] at ho34))
             replace HO_3 := mk0 (Kd.N_elder' (by (with_reducible repeat (first | apply Na_ | apply Nn_ | apply Nd_)); exact HO_3.out) (Kd.R_base ho34) hb)
             have HO546 := mk0 (Kd.R_lower (Kd.R_newB (Kd.R_new' (Kd.R_new' ho34 (Kd.R_lt (by (with_reducible repeat (first | apply Ra_ | apply Rn_ | apply Rd_)); exact HO_4.out))) (Kd.R_lt (by (with_reducible repeat (first | apply Ra_ | apply Rn_ | apply Rd_)); exact HO543.out))) (g := gb536) (o := .cells #[.int .i64 ((rd_T30 t529 (ji20)).f0), .int .i64 ((rd_T30 t529 0).f1), .bool ((rd_T30 t529 0).f2)] 30 (0, 0)) (by (with_reducible repeat (first | refine blk_drewN ?_ _ | refine blk_drew ?_ | refine blk_alloc ?_ _)); exact BK536.out)) (below_size (by with_reducible repeat (first | exact HB.out | apply ba_ | apply bn_ | apply bd_ | refine below_set ?_ GE536.out))))
             replace HO_4 := mk0 (Kd.R_elder' (by (with_reducible repeat (first | apply Ra_ | apply Rn_ | apply Rd_)); exact HO_4.out) (Kd.R_base ho34) hb)
             replace HO543 := mk0 (Kd.R_elder' (by (with_reducible repeat (first | apply Ra_ | apply Rn_ | apply Rd_)); exact HO543.out) (Kd.R_base ho34) hb)
             replace BK536 := mk0 (blk_below (g := gb536) (o := .cells #[.int .i64 ((rd_T30 t529 (ji20)).f0), .int .i64 ((rd_T30 t529 0).f1), .bool ((rd_T30 t529 0).f2)] 30 (0, 0)) (by (with_reducible repeat (first | refine blk_drewN ?_ _ | refine blk_drew ?_ | refine blk_alloc ?_ _)); exact BK536.out) hb)
             replace HB := mk0 (below_step (by with_reducible repeat (first | exact HB.out | apply ba_ | apply bn_ | apply bd_ | refine below_set ?_ GE536.out)) hb)
             clear hb ho34
             refine hK.out _ _ ⟨(blk_cell BK536.out 0).trans rfl, (blk_cell BK536.out 1).trans rfl, (blk_cell BK536.out 2).trans rfl⟩ (fun hHeld => ?_)
             clear hK K
             refine norm_ (a' := ?_) ?_ ?_
             rotate_left
             ·
              show Act.put _ (some 53) _ = _
              simp only [Act.put, List.setIfInBounds_toArray, List.set_cons_zero, List.set_cons_succ, i64_w, i32_w]
              rfl
             exact norm_ (by simp only [putAll, Act.put, List.setIfInBounds_toArray, List.set_cons_zero, List.set_cons_succ]) (hCont (v539, v542, v545) _ ⟨hHeld, (by (with_reducible repeat (first | apply Ra_ | apply Rn_ | apply Rd_)); exact Kd.R_mono HO543.out (fun _ hk => ⟨hk.2, ⟨hk.1.1, hk.1.2⟩⟩)), (by (with_reducible repeat (first | apply Ra_ | apply Rn_ | apply Rd_)); exact Kd.R_mono HO546.out (fun _ hk => ⟨hk.1.2, ⟨hk.1.1.2, hk.2⟩⟩)), (by (with_reducible repeat (first | apply Na_ | apply Nn_ | apply Nd_)); exact Kd.N_mono HO_3.out (fun _ hk => ⟨hk.1.2, ⟨hk.2, ⟨hk.1.1.1, hk.1.1.2⟩⟩⟩)), (by (with_reducible repeat (first | apply Ra_ | apply Rn_ | apply Rd_)); exact Kd.R_mono HO_4.out (fun _ hk => ⟨hk.1.2, ⟨hk.2, hk.1.1⟩⟩)), (by (with_reducible repeat (first | refine blk_drewN ?_ _ | refine blk_drew ?_ | refine blk_alloc ?_ _)); exact BK536.out), (by with_reducible repeat (first | exact HB.out | apply ba_ | apply bn_ | apply bd_ | refine below_set ?_ GE536.out))⟩)
            ·
             skip
             refine Kd.R_lit_step k30 _ 30 ?hg (N := 53) ?hd (xs := ([(⟨(rd_T30 t529 (ji20)).f0, (rd_T30 t529 0).f1, (rd_T30 t529 0).f2⟩ : S30)] : List (S30))) (inner := [.int .i64 ((rd_T30 t529 (ji20)).f0), .int .i64 ((rd_T30 t529 0).f1), .bool ((rd_T30 t529 0).f2)]) (ok := fun _ => True) (okp := fun _ => True) ?hr ?hp (fun _ hk => hk) trivial (Below.refl _ _) (Nat.le_refl _) (by simp) ?_; (case hd => rfl); (case hg => rfl); (case hr => first | (go_simp; done) | (go_simp; rfl)); (case hp => exact (Reps.c3 (show Kd.M k30 _ _ _ (⟨(rd_T30 t529 (ji20)).f0, (rd_T30 t529 0).f1, (rd_T30 t529 0).f2⟩ : S30) [.int .i64 ((rd_T30 t529 (ji20)).f0), .int .i64 ((rd_T30 t529 0).f1), .bool ((rd_T30 t529 0).f2)] from (k30_mkM _ _ _ (⟨(rd_T30 t529 (ji20)).f0, (rd_T30 t529 0).f1, (rd_T30 t529 0).f2⟩ : S30) )) (Reps.none _ _)))
             intro v545 w32 ho33 hb hg_ hnew_
             clear hg_ hnew_
             (first | rw [← Ny544.out] at ho33 | (simp only [Int.reduceToNat] at ho33; rw [← Ny544.out] at ho33))
             replace HO_3 := mk0 (Kd.N_elder' (by (with_reducible repeat (first | apply Na_ | apply Nn_ | apply Nd_)); exact HO_3.out) (Kd.R_base ho33) hb)
             have HO546 := mk0 (Kd.R_lower (Kd.R_newB (Kd.R_new' (Kd.R_new' ho33 (Kd.R_lt (by (with_reducible repeat (first | apply Ra_ | apply Rn_ | apply Rd_)); exact HO_4.out))) (Kd.R_lt (by (with_reducible repeat (first | apply Ra_ | apply Rn_ | apply Rd_)); exact HO540.out))) (g := gb536) (o := .cells #[.int .i64 ((rd_T30 t529 (ji20)).f0), .int .i64 ((rd_T30 t529 0).f1), .bool ((rd_T30 t529 0).f2)] 30 (0, 0)) (by (with_reducible repeat (first | refine blk_drewN ?_ _ | refine blk_drew ?_ | refine blk_alloc ?_ _)); exact BK536.out)) (below_size (by with_reducible repeat (first | exact HB.out | apply ba_ | apply bn_ | apply bd_ | refine below_set ?_ GE536.out))))
             replace HO_4 := mk0 (Kd.R_elder' (by (with_reducible repeat (first | apply Ra_ | apply Rn_ | apply Rd_)); exact HO_4.out) (Kd.R_base ho33) hb)
             replace HO540 := mk0 (Kd.R_elder' (by (with_reducible repeat (first | apply Ra_ | apply Rn_ | apply Rd_)); exact HO540.out) (Kd.R_base ho33) hb)
             replace BK536 := mk0 (blk_below (g := gb536) (o := .cells #[.int .i64 ((rd_T30 t529 (ji20)).f0), .int .i64 ((rd_T30 t529 0).f1), .bool ((rd_T30 t529 0).f2)] 30 (0, 0)) (by (with_reducible repeat (first | refine blk_drewN ?_ _ | refine blk_drew ?_ | refine blk_alloc ?_ _)); exact BK536.out) hb)
             replace HB := mk0 (below_step (by with_reducible repeat (first | exact HB.out | apply ba_ | apply bn_ | apply bd_ | refine below_set ?_ GE536.out)) hb)
             clear hb ho33
             refine hK.out _ _ ⟨(blk_cell BK536.out 0).trans rfl, (blk_cell BK536.out 1).trans rfl, (blk_cell BK536.out 2).trans rfl⟩ (fun hHeld => ?_)
             clear hK K
             refine norm_ (a' := ?_) ?_ ?_
             rotate_left
             ·
              show Act.put _ (some 53) _ = _
              simp only [Act.put, List.setIfInBounds_toArray, List.set_cons_zero, List.set_cons_succ, i64_w, i32_w]
              rfl
             refine one_ (i := 3) (N := some 51) #[true, true, true, true, true, true, false, false, false, false] rfl rfl (one_of HT_.out (by kernel_rfl)) (by decide) (fun K hK => ?_)
             refine Kd.R_append_rows_step k30 (w0 := w) w.heap.size (by rfl) (.tmp 49) (.tmp 50) 24 30 (.agg #[(.int .i64 0), (.int .i64 0), (.bool false)]) 24 rfl Tryd.underlying24 info30 rfl (by decide) (by omega) v539 y538 t529 _ _ _ (fun k_ => some k_ ≠ (.slice (some ad535) t529.length co8 : Value).ownBlock ∧ some k_ ≠ (v545 : Value).ownBlock ∧ k_ ≠ gb536) (fun _ => False) rfl rfl ?aO ?aR (fun _ _ h => h) (fun _ h => h.elim) ?aF ?aB ?aS ?aL ?_
             (case aR => repeat (first | exact (Kd.R_reads' HO_4.out).2.2 | (with_reducible first | refine Ca_ ?_ _ | refine Cn_ ?_ _ | refine Cd_ ?_)))
             (case aB => exact (by with_reducible repeat (first | exact HB.out | apply ba_ | apply bn_ | apply bd_ | refine below_set ?_ GE536.out)))
             (case aF => exact (fun k_ hk => ⟨Kd.fresh' (Kd.R_lt (by (with_reducible repeat (first | apply Ra_ | apply Rn_ | apply Rd_)); exact HO_4.out)) k_ hk, Kd.fresh' (Kd.R_lt (by (with_reducible repeat (first | apply Ra_ | apply Rn_ | apply Rd_)); exact HO546.out)) k_ hk, Kd.freshB (g := gb536) (o := .cells #[.int .i64 ((rd_T30 t529 (ji20)).f0), .int .i64 ((rd_T30 t529 0).f1), .bool ((rd_T30 t529 0).f2)] 30 (0, 0)) (by (with_reducible repeat (first | refine blk_drewN ?_ _ | refine blk_drew ?_ | refine blk_alloc ?_ _)); exact BK536.out) k_ hk⟩))
             (case aO => exact (by (with_reducible repeat (first | apply Ra_ | apply Rn_ | apply Rd_)); exact Kd.R_mono HO540.out (fun _ hk => ⟨hk.1.1.2, ⟨hk.2, hk.1.2⟩⟩)))
             (case aS => exact (below_size (by with_reducible repeat (first | exact HB.out | apply ba_ | apply bn_ | apply bd_ | refine below_set ?_ GE536.out))))
             (case aL => have := LMc23.out; omega)
             intro v542 w34 ho hb hg hat
             rw [← Ny541.out] at ho
             replace HO_3 := mk0 (Kd.N_afterv (ok := (fun k_ => some k_ ≠ (.slice (some ad535) t529.length co8 : Value).ownBlock ∧ some k_ ≠ (v545 : Value).ownBlock ∧ k_ ≠ gb536)) (by (with_reducible repeat (first | apply Na_ | apply Nn_ | apply Nd_)); exact Kd.N_mono HO_3.out (fun _ hk => ⟨⟨hk.1.1.1, ⟨hk.2, hk.1.1.2⟩⟩, hk.1.2⟩)) hg hat)
             replace HO_4 := mk0 (Kd.R_after (ok := (fun k_ => some k_ ≠ (v545 : Value).ownBlock ∧ k_ ≠ gb536)) (by (with_reducible repeat (first | apply Ra_ | apply Rn_ | apply Rd_)); exact Kd.R_mono HO_4.out (fun _ hk => ⟨⟨hk.2, hk.1.1⟩, hk.1.2⟩)) hg hat)
             replace BK536 := mk0 (blk_grown (g := gb536) (o := .cells #[.int .i64 ((rd_T30 t529 (ji20)).f0), .int .i64 ((rd_T30 t529 0).f1), .bool ((rd_T30 t529 0).f2)] 30 (0, 0)) (by (with_reducible repeat (first | refine blk_drewN ?_ _ | refine blk_drew ?_ | refine blk_alloc ?_ _)); exact BK536.out) hg (Kd.R_away HO540.out (fun _ hk => hk.1.2)))
             replace HO546 := mk0 (Kd.R_after (ok := (fun k_ => some k_ ≠ (.slice (some ad535) t529.length co8 : Value).ownBlock ∧ k_ ≠ gb536)) (by (with_reducible repeat (first | apply Ra_ | apply Rn_ | apply Rd_)); exact Kd.R_mono HO546.out (fun _ hk => ⟨⟨hk.1.1.2, hk.2⟩, hk.1.2⟩)) hg hat)
             replace HB := mk0 (hb)
             have HO543 := mk0 (ho)
             clear HO540
             clear ho hb hg hat
             refine hK.out _ _ ⟨(blk_cell BK536.out 0).trans rfl, (blk_cell BK536.out 1).trans rfl, (blk_cell BK536.out 2).trans rfl⟩ (fun hHeld => ?_)
             clear hK K
             refine norm_ (a' := ?_) ?_ ?_
             rotate_left
             ·
              show Act.put _ (some 51) _ = _
              simp only [Act.put, List.setIfInBounds_toArray, List.set_cons_zero, List.set_cons_succ, i64_w, i32_w]
              rfl
             exact norm_ (by simp only [putAll, Act.put, List.setIfInBounds_toArray, List.set_cons_zero, List.set_cons_succ]) (hCont (v539, v542, v545) _ ⟨hHeld, (by (with_reducible repeat (first | apply Ra_ | apply Rn_ | apply Rd_)); exact Kd.R_mono HO543.out (fun _ hk => ⟨hk.2.1, ⟨hk.1, hk.2.2⟩⟩)), (by (with_reducible repeat (first | apply Ra_ | apply Rn_ | apply Rd_)); exact Kd.R_mono HO546.out (fun _ hk => ⟨hk.2, ⟨hk.1.1, hk.1.2⟩⟩)), (by (with_reducible repeat (first | apply Na_ | apply Nn_ | apply Nd_)); exact Kd.N_mono HO_3.out (fun _ hk => ⟨hk.2, ⟨hk.1.2.1, ⟨hk.1.1, hk.1.2.2⟩⟩⟩)), (by (with_reducible repeat (first | apply Ra_ | apply Rn_ | apply Rd_)); exact Kd.R_mono HO_4.out (fun _ hk => ⟨hk.2, ⟨hk.1.1, hk.1.2⟩⟩)), (by (with_reducible repeat (first | refine blk_drewN ?_ _ | refine blk_drew ?_ | refine blk_alloc ?_ _)); exact BK536.out), (by with_reducible repeat (first | exact HB.out | apply ba_ | apply bn_ | apply bd_ | refine below_set ?_ GE536.out))⟩)
           ·
            skip
            refine Kd.R_lit_step k30 _ 30 ?hg (N := 53) ?hd (xs := ([(⟨(rd_T30 t529 (ji20)).f0, (rd_T30 t529 0).f1, (rd_T30 t529 0).f2⟩ : S30)] : List (S30))) (inner := [.int .i64 ((rd_T30 t529 (ji20)).f0), .int .i64 ((rd_T30 t529 0).f1), .bool ((rd_T30 t529 0).f2)]) (ok := fun _ => True) (okp := fun _ => True) ?hr ?hp (fun _ hk => hk) trivial (Below.refl _ _) (Nat.le_refl _) (by simp) ?_; (case hd => rfl); (case hg => rfl); (case hr => first | (go_simp; done) | (go_simp; rfl)); (case hp => exact (Reps.c3 (show Kd.M k30 _ _ _ (⟨(rd_T30 t529 (ji20)).f0, (rd_T30 t529 0).f1, (rd_T30 t529 0).f2⟩ : S30) [.int .i64 ((rd_T30 t529 (ji20)).f0), .int .i64 ((rd_T30 t529 0).f1), .bool ((rd_T30 t529 0).f2)] from (k30_mkM _ _ _ (⟨(rd_T30 t529 (ji20)).f0, (rd_T30 t529 0).f1, (rd_T30 t529 0).f2⟩ : S30) )) (Reps.none _ _)))
            intro v545 w30 ho31 hb hg_ hnew_
            clear hg_ hnew_
            (first | rw [← Ny544.out] at ho31 | (simp only [Int.reduceToNat] at ho31; rw [← Ny544.out] at ho31))
            replace HO_3 := mk0 (Kd.N_elder' (by (with_reducible repeat (first | apply Na_ | apply Nn_ | apply Nd_)); exact HO_3.out) (Kd.R_base ho31) hb)
            have HO546 := mk0 (Kd.R_lower (Kd.R_newB (Kd.R_new' ho31 (Kd.R_lt (by (with_reducible repeat (first | apply Ra_ | apply Rn_ | apply Rd_)); exact HO_4.out))) (g := gb536) (o := .cells #[.int .i64 ((rd_T30 t529 (ji20)).f0), .int .i64 ((rd_T30 t529 0).f1), .bool ((rd_T30 t529 0).f2)] 30 (0, 0)) (by (with_reducible repeat (first | refine blk_drewN ?_ _ | refine blk_drew ?_ | refine blk_alloc ?_ _)); exact BK536.out)) (below_size (by with_reducible repeat (first | exact HB.out | apply ba_ | apply bn_ | apply bd_ | refine below_set ?_ GE536.out))))
            replace HO_4 := mk0 (Kd.R_elder' (by (with_reducible repeat (first | apply Ra_ | apply Rn_ | apply Rd_)); exact HO_4.out) (Kd.R_base ho31) hb)
            replace BK536 := mk0 (blk_below (g := gb536) (o := .cells #[.int .i64 ((rd_T30 t529 (ji20)).f0), .int .i64 ((rd_T30 t529 0).f1), .bool ((rd_T30 t529 0).f2)] 30 (0, 0)) (by (with_reducible repeat (first | refine blk_drewN ?_ _ | refine blk_drew ?_ | refine blk_alloc ?_ _)); exact BK536.out) hb)
            replace HB := mk0 (below_step (by with_reducible repeat (first | exact HB.out | apply ba_ | apply bn_ | apply bd_ | refine below_set ?_ GE536.out)) hb)
            clear hb ho31
            refine hK.out _ _ ⟨(blk_cell BK536.out 0).trans rfl, (blk_cell BK536.out 1).trans rfl, (blk_cell BK536.out 2).trans rfl⟩ (fun hHeld => ?_)
            clear hK K
            refine norm_ (a' := ?_) ?_ ?_
            rotate_left
            ·
             show Act.put _ (some 53) _ = _
             simp only [Act.put, List.setIfInBounds_toArray, List.set_cons_zero, List.set_cons_succ, i64_w, i32_w]
             rfl
            refine one_ (i := 1) (N := some 49) #[true, true, true, false, true, true, false, false, false, false] rfl rfl (one_of HT_.out (by kernel_rfl)) (by decide) (fun K hK => ?_)
            refine Kd.R_lit_step k30 _ 30 ?hg (N := 49) ?hd (xs := ([] : List (S30))) (inner := []) (ok := fun _ => True) (okp := fun _ => True) ?hr ?hp (fun _ hk => hk) trivial (Below.refl _ _) (Nat.le_refl _) (by simp) ?_; (case hd => rfl); (case hg => rfl); (case hr => first | (go_simp; done) | (go_simp; rfl)); (case hp => exact (Reps.none _ _))
            intro v539 w32 ho33 hb hg_ hnew_
            clear hg_ hnew_
            (first | rw [← Ny538.out] at ho33 | (simp only [Int.reduceToNat] at ho33; rw [← Ny538.out] at ho33))
            replace HO_3 := mk0 (Kd.N_elder' (by (with_reducible repeat (first | apply Na_ | apply Nn_ | apply Nd_)); exact HO_3.out) (Kd.R_base ho33) hb)
            have HO540 := mk0 (Kd.R_lower (Kd.R_newB (Kd.R_new' (Kd.R_new' ho33 (Kd.R_lt (by (with_reducible repeat (first | apply Ra_ | apply Rn_ | apply Rd_)); exact HO_4.out))) (Kd.R_lt (by (with_reducible repeat (first | apply Ra_ | apply Rn_ | apply Rd_)); exact HO546.out))) (g := gb536) (o := .cells #[.int .i64 ((rd_T30 t529 (ji20)).f0), .int .i64 ((rd_T30 t529 0).f1), .bool ((rd_T30 t529 0).f2)] 30 (0, 0)) (by (with_reducible repeat (first | refine blk_drewN ?_ _ | refine blk_drew ?_ | refine blk_alloc ?_ _)); exact BK536.out)) (below_size (by with_reducible repeat (first | exact HB.out | apply ba_ | apply bn_ | apply bd_ | refine below_set ?_ GE536.out))))
            replace HO_4 := mk0 (Kd.R_elder' (by (with_reducible repeat (first | apply Ra_ | apply Rn_ | apply Rd_)); exact HO_4.out) (Kd.R_base ho33) hb)
            replace HO546 := mk0 (Kd.R_elder' (by (with_reducible repeat (first | apply Ra_ | apply Rn_ | apply Rd_)); exact HO546.out) (Kd.R_base ho33) hb)
            replace BK536 := mk0 (blk_below (g := gb536) (o := .cells #[.int .i64 ((rd_T30 t529 (ji20)).f0), .int .i64 ((rd_T30 t529 0).f1), .bool ((rd_T30 t529 0).f2)] 30 (0, 0)) (by (with_reducible repeat (first | refine blk_drewN ?_ _ | refine blk_drew ?_ | refine blk_alloc ?_ _)); exact BK536.out) hb)
            replace HB := mk0 (below_step (by with_reducible repeat (first | exact HB.out | apply ba_ | apply bn_ | apply bd_ | refine below_set ?_ GE536.out)) hb)
            clear hb ho33
            refine hK.out _ _ ⟨(blk_cell BK536.out 0).trans rfl, (blk_cell BK536.out 1).trans rfl, (blk_cell BK536.out 2).trans rfl⟩ (fun hHeld => ?_)
            clear hK K
            refine norm_ (a' := ?_) ?_ ?_
            rotate_left
            ·
             show Act.put _ (some 49) _ = _
             simp only [Act.put, List.setIfInBounds_toArray, List.set_cons_zero, List.set_cons_succ, i64_w, i32_w]
             rfl
            refine one_ (i := 3) (N := some 51) #[true, true, true, true, true, true, false, false, false, false] rfl rfl (one_of HT_.out (by kernel_rfl)) (by decide) (fun K hK => ?_)
            refine Kd.R_append_rows_step k30 (w0 := w) w.heap.size (by rfl) (.tmp 49) (.tmp 50) 24 30 (.agg #[(.int .i64 0), (.int .i64 0), (.bool false)]) 24 rfl Tryd.underlying24 info30 rfl (by decide) (by omega) v539 y538 t529 _ _ _ (fun k_ => some k_ ≠ (.slice (some ad535) t529.length co8 : Value).ownBlock ∧ some k_ ≠ (v545 : Value).ownBlock ∧ k_ ≠ gb536) (fun _ => False) rfl rfl ?aO ?aR (fun _ _ h => h) (fun _ h => h.elim) ?aF ?aB ?aS ?aL ?_
            (case aR => repeat (first | exact (Kd.R_reads' HO_4.out).2.2 | (with_reducible first | refine Ca_ ?_ _ | refine Cn_ ?_ _ | refine Cd_ ?_)))
            (case aB => exact (by with_reducible repeat (first | exact HB.out | apply ba_ | apply bn_ | apply bd_ | refine below_set ?_ GE536.out)))
            (case aF => exact (fun k_ hk => ⟨Kd.fresh' (Kd.R_lt (by (with_reducible repeat (first | apply Ra_ | apply Rn_ | apply Rd_)); exact HO_4.out)) k_ hk, Kd.fresh' (Kd.R_lt (by (with_reducible repeat (first | apply Ra_ | apply Rn_ | apply Rd_)); exact HO546.out)) k_ hk, Kd.freshB (g := gb536) (o := .cells #[.int .i64 ((rd_T30 t529 (ji20)).f0), .int .i64 ((rd_T30 t529 0).f1), .bool ((rd_T30 t529 0).f2)] 30 (0, 0)) (by (with_reducible repeat (first | refine blk_drewN ?_ _ | refine blk_drew ?_ | refine blk_alloc ?_ _)); exact BK536.out) k_ hk⟩))
            (case aO => exact (by (with_reducible repeat (first | apply Ra_ | apply Rn_ | apply Rd_)); exact Kd.R_mono HO540.out (fun _ hk => ⟨hk.1.1.2, ⟨hk.1.2, hk.2⟩⟩)))
            (case aS => exact (below_size (by with_reducible repeat (first | exact HB.out | apply ba_ | apply bn_ | apply bd_ | refine below_set ?_ GE536.out))))
            (case aL => have := LMc23.out; omega)
            intro v542 w34 ho hb hg hat
            rw [← Ny541.out] at ho
            replace HO_3 := mk0 (Kd.N_afterv (ok := (fun k_ => some k_ ≠ (.slice (some ad535) t529.length co8 : Value).ownBlock ∧ some k_ ≠ (v545 : Value).ownBlock ∧ k_ ≠ gb536)) (by (with_reducible repeat (first | apply Na_ | apply Nn_ | apply Nd_)); exact Kd.N_mono HO_3.out (fun _ hk => ⟨⟨hk.1.1.1, ⟨hk.1.2, hk.1.1.2⟩⟩, hk.2⟩)) hg hat)
            replace HO_4 := mk0 (Kd.R_after (ok := (fun k_ => some k_ ≠ (v545 : Value).ownBlock ∧ k_ ≠ gb536)) (by (with_reducible repeat (first | apply Ra_ | apply Rn_ | apply Rd_)); exact Kd.R_mono HO_4.out (fun _ hk => ⟨⟨hk.1.2, hk.1.1⟩, hk.2⟩)) hg hat)
            replace BK536 := mk0 (blk_grown (g := gb536) (o := .cells #[.int .i64 ((rd_T30 t529 (ji20)).f0), .int .i64 ((rd_T30 t529 0).f1), .bool ((rd_T30 t529 0).f2)] 30 (0, 0)) (by (with_reducible repeat (first | refine blk_drewN ?_ _ | refine blk_drew ?_ | refine blk_alloc ?_ _)); exact BK536.out) hg (Kd.R_away HO540.out (fun _ hk => hk.2)))
            replace HO546 := mk0 (Kd.R_after (ok := (fun k_ => some k_ ≠ (.slice (some ad535) t529.length co8 : Value).ownBlock ∧ k_ ≠ gb536)) (by (with_reducible repeat (first | apply Ra_ | apply Rn_ | apply Rd_)); exact Kd.R_mono HO546.out (fun _ hk => ⟨⟨hk.1.1.2, hk.1.2⟩, hk.2⟩)) hg hat)
            replace HB := mk0 (hb)
            have HO543 := mk0 (ho)
            clear HO540
            clear ho hb hg hat
            refine hK.out _ _ ⟨(blk_cell BK536.out 0).trans rfl, (blk_cell BK536.out 1).trans rfl, (blk_cell BK536.out 2).trans rfl⟩ (fun hHeld => ?_)
            clear hK K
            refine norm_ (a' := ?_) ?_ ?_
            rotate_left
            ·
             show Act.put _ (some 51) _ = _
             simp only [Act.put, List.setIfInBounds_toArray, List.set_cons_zero, List.set_cons_succ, i64_w, i32_w]
             rfl
            exact norm_ (by simp only [putAll, Act.put, List.setIfInBounds_toArray, List.set_cons_zero, List.set_cons_succ]) (hCont (v539, v542, v545) _ ⟨hHeld, (by (with_reducible repeat (first | apply Ra_ | apply Rn_ | apply Rd_)); exact Kd.R_mono HO543.out (fun _ hk => ⟨hk.2.1, ⟨hk.1, hk.2.2⟩⟩)), (by (with_reducible repeat (first | apply Ra_ | apply Rn_ | apply Rd_)); exact Kd.R_mono HO546.out (fun _ hk => ⟨hk.2, ⟨hk.1.1, hk.1.2⟩⟩)), (by (with_reducible repeat (first | apply Na_ | apply Nn_ | apply Nd_)); exact Kd.N_mono HO_3.out (fun _ hk => ⟨hk.2, ⟨hk.1.2.1, ⟨hk.1.1, hk.1.2.2⟩⟩⟩)), (by (with_reducible repeat (first | apply Ra_ | apply Rn_ | apply Rd_)); exact Kd.R_mono HO_4.out (fun _ hk => ⟨hk.2, ⟨hk.1.1, hk.1.2⟩⟩)), (by (with_reducible repeat (first | refine blk_drewN ?_ _ | refine blk_drew ?_ | refine blk_alloc ?_ _)); exact BK536.out), (by with_reducible repeat (first | exact HB.out | apply ba_ | apply bn_ | apply bd_ | refine below_set ?_ GE536.out))⟩)
          rintro ⟨v539, v542, v545⟩ w35 ⟨hS_, h0_, h1_, h2_, h3_, h4_, h5_⟩
          have n0_ : Aside0 (Kd.R k30 30 w35 w.heap.size (fun k_ => some k_ ≠ (v545 : Value).ownBlock ∧ some k_ ≠ (.slice (some ad535) t529.length co8 : Value).ownBlock ∧ k_ ≠ gb536) v542 y541) := ⟨h0_⟩
          have n1_ : Aside0 (Kd.R k30 30 w35 w.heap.size (fun k_ => some k_ ≠ (v542 : Value).ownBlock ∧ some k_ ≠ (.slice (some ad535) t529.length co8 : Value).ownBlock ∧ k_ ≠ gb536) v545 y544) := ⟨h1_⟩
          have n2_ : Aside0 (Kd.N k41 41 w35 w.heap.size (fun k_ => some k_ ≠ (v542 : Value).ownBlock ∧ some k_ ≠ (v545 : Value).ownBlock ∧ some k_ ≠ (.slice (some ad535) t529.length co8 : Value).ownBlock ∧ k_ ≠ gb536) (.slice Ao7 t526.length co7) t526) := ⟨h2_⟩
          have n3_ : Aside0 (Kd.R k30 30 w35 w.heap.size (fun k_ => some k_ ≠ (v542 : Value).ownBlock ∧ some k_ ≠ (v545 : Value).ownBlock ∧ k_ ≠ gb536) (.slice (some ad535) t529.length co8) t529) := ⟨h3_⟩
          have n4_ : Aside0 (w35.heap[gb536]? = some (.cells #[.int .i64 ((rd_T30 t529 (ji20)).f0), .int .i64 ((rd_T30 t529 0).f1), .bool ((rd_T30 t529 0).f2)] 30 (0, 0))) := ⟨h4_⟩
          have n5_ : Aside0 (Below w.heap.size w w35) := ⟨h5_⟩
          clear HO_3
          clear HO_4
          clear BK536
          clear HB
          clear h0_ h1_ h2_ h3_ h4_ h5_
          have HO543 := n0_
          have HO546 := n1_
          have HO_3 := n2_
          have HO_4 := n3_
          have BK536 := n4_
          have HB := n5_
          clear n0_ n1_ n2_ n3_ n4_ n5_
          have hHeld : w35.cell? ⟨gb536, 0, none⟩ = some (.int .i64 ((rd_T30 t529 (ji20)).f0)) ∧ w35.cell? ⟨gb536, 1, none⟩ = some (.int .i64 ((rd_T30 t529 0).f1)) ∧ w35.cell? ⟨gb536, 2, none⟩ = some (.bool ((rd_T30 t529 0).f2)) := hS_
          obtain ⟨Ao37, co37, eo37⟩ := Kd.R_slice HO546.out
          (first | subst eo37 | (injection eo37 with f1_ f2_ f3_; have f4_ := f1_.symm; have f5_ := f3_.symm; clear f1_ f2_ f3_; subst f4_; subst f5_))
          refine norm_ (a' := ?_) ?_ ?_
          rotate_left
          ·
           simp only [putAll, Act.put, List.setIfInBounds_toArray, List.set_cons_zero, List.set_cons_succ]
           rfl
          refine one_ (i := 6) (N := some 54) #[true, true, true, true, true, true, true, false, false, false] rfl rfl (one_of HT_.out (by kernel_rfl)) (by decide) (fun K hK => ?_)
          refine Kd.R_append_rows_step k30 (w0 := w) w.heap.size (by rfl) (.tmp 51) (.tmp 53) 24 30 (.agg #[(.int .i64 0), (.int .i64 0), (.bool false)]) 24 rfl Tryd.underlying24 info30 rfl (by decide) (by omega) v542 y541 y544 _ _ _ (fun k_ => some k_ ≠ (.slice (some ad535) t529.length co8 : Value).ownBlock ∧ some k_ ≠ (.slice Ao37 y544.length co37 : Value).ownBlock ∧ k_ ≠ gb536) (fun _ => False) rfl rfl ?aO ?aR (fun _ _ h => h) (fun _ h => h.elim) ?aF ?aB ?aS ?aL ?_
          (case aR => repeat (first | exact (Kd.R_reads' HO546.out).2.2 | (with_reducible first | refine Ca_ ?_ _ | refine Cn_ ?_ _ | refine Cd_ ?_)))
          (case aB => exact (by with_reducible repeat (first | exact HB.out | apply ba_ | apply bn_ | apply bd_ | refine below_set ?_ GE536.out)))
          (case aF => exact (fun k_ hk => ⟨Kd.fresh' (Kd.R_lt (by (with_reducible repeat (first | apply Ra_ | apply Rn_ | apply Rd_)); exact HO_4.out)) k_ hk, Kd.fresh' (Kd.R_lt (by (with_reducible repeat (first | apply Ra_ | apply Rn_ | apply Rd_)); exact HO546.out)) k_ hk, Kd.freshB (g := gb536) (o := .cells #[.int .i64 ((rd_T30 t529 (ji20)).f0), .int .i64 ((rd_T30 t529 0).f1), .bool ((rd_T30 t529 0).f2)] 30 (0, 0)) (by (with_reducible repeat (first | refine blk_drewN ?_ _ | refine blk_drew ?_ | refine blk_alloc ?_ _)); exact BK536.out) k_ hk⟩))
          (case aO => exact (by (with_reducible repeat (first | apply Ra_ | apply Rn_ | apply Rd_)); exact Kd.R_mono HO543.out (fun _ hk => ⟨hk.2.1, ⟨hk.1, hk.2.2⟩⟩)))
          (case aS => exact (below_size (by with_reducible repeat (first | exact HB.out | apply ba_ | apply bn_ | apply bd_ | refine below_set ?_ GE536.out))))
          (case aL => have := LMc24.out; omega)
          intro v548 w36 ho hb hg hat
          rw [← Ny547.out] at ho
          replace HO_3 := mk0 (Kd.N_afterv (ok := (fun k_ => some k_ ≠ (.slice (some ad535) t529.length co8 : Value).ownBlock ∧ some k_ ≠ (.slice Ao37 y544.length co37 : Value).ownBlock ∧ k_ ≠ gb536)) (by (with_reducible repeat (first | apply Na_ | apply Nn_ | apply Nd_)); exact Kd.N_mono HO_3.out (fun _ hk => ⟨⟨hk.2.2.1, ⟨hk.2.1, hk.2.2.2⟩⟩, hk.1⟩)) hg hat)
          replace HO_4 := mk0 (Kd.R_after (ok := (fun k_ => some k_ ≠ (.slice Ao37 y544.length co37 : Value).ownBlock ∧ k_ ≠ gb536)) (by (with_reducible repeat (first | apply Ra_ | apply Rn_ | apply Rd_)); exact Kd.R_mono HO_4.out (fun _ hk => ⟨⟨hk.2.1, hk.2.2⟩, hk.1⟩)) hg hat)
          replace BK536 := mk0 (blk_grown (g := gb536) (o := .cells #[.int .i64 ((rd_T30 t529 (ji20)).f0), .int .i64 ((rd_T30 t529 0).f1), .bool ((rd_T30 t529 0).f2)] 30 (0, 0)) (by (with_reducible repeat (first | refine blk_drewN ?_ _ | refine blk_drew ?_ | refine blk_alloc ?_ _)); exact BK536.out) hg (Kd.R_away HO543.out (fun _ hk => hk.2.2)))
          replace HO546 := mk0 (Kd.R_after (ok := (fun k_ => some k_ ≠ (.slice (some ad535) t529.length co8 : Value).ownBlock ∧ k_ ≠ gb536)) (by (with_reducible repeat (first | apply Ra_ | apply Rn_ | apply Rd_)); exact Kd.R_mono HO546.out (fun _ hk => ⟨⟨hk.2.1, hk.2.2⟩, hk.1⟩)) hg hat)
          replace HB := mk0 (hb)
          have HO549 := mk0 (ho)
          clear HO543
          clear ho hb hg hat
          obtain ⟨Ao38, co38, eo38⟩ := Kd.R_slice HO549.out
          (first | subst eo38 | (injection eo38 with f1_ f2_ f3_; have f4_ := f1_.symm; have f5_ := f3_.symm; clear f1_ f2_ f3_; subst f4_; subst f5_))
          refine hK.out _ _ ⟨(blk_cell BK536.out 0).trans rfl, (blk_cell BK536.out 1).trans rfl, (blk_cell BK536.out 2).trans rfl⟩ (fun hHeld => ?_)
          clear hK K
          refine norm_ (a' := ?_) ?_ ?_
          rotate_left
          ·
           show Act.put _ (some 54) _ = _
           simp only [Act.put, List.setIfInBounds_toArray, List.set_cons_zero, List.set_cons_succ, i64_w, i32_w]
           rfl
          refine one_ (i := 7) (N := some 55) #[true, true, true, true, true, true, true, true, false, false] rfl rfl (one_of HT_.out (by kernel_rfl)) (by decide) (fun K hK => ?_)
          refine goes_ Tryd.func10 (by kernel_rfl) rfl #[.slice Ao7 t526.length co7, .slice Ao38 y547.length co38] (by rfl) rfl rfl (by (try simp only [List.map_toArray, List.map_cons, List.map_nil]); first | done | rfl | (simp only [List.length_drop, List.length_take]; rfl)) ?_
          with_reducible refine (impl_ValidLog.calls kj4 _ _ t526 _ _ y547 t550 _ ?side1 ?side2 ?side3 ?side4 ?side99 A25.out).mono ?_
          (case side99 => exact Tab.keep HT.out HT.out.lt (by with_reducible repeat (first | exact HB.out | apply ba_ | apply bn_ | apply bd_)))
          (case side1 => repeat (first | exact (Kd.N_reads' HO_3.out).2.2 | (with_reducible first | refine Ca_ ?_ _ | refine Cn_ ?_ _ | refine Cd_ ?_)))
          (case side2 => exact (Kd.N_reads' HO_3.out).2.1)
          (case side3 => repeat (first | exact (Kd.R_reads' HO549.out).2.2 | (with_reducible first | refine Ca_ ?_ _ | refine Cn_ ?_ _ | refine Cd_ ?_)))
          (case side4 => exact (Kd.R_reads' HO549.out).2.1)
          rintro e w39 ⟨rfl, hb⟩
          refine ⟨_, rfl, ?_⟩
          replace HO_3 := mk0 (Kd.N_below (by (with_reducible repeat (first | apply Na_ | apply Nn_ | apply Nd_)); exact HO_3.out) hb)
          replace HO_4 := mk0 (Kd.R_below (by (with_reducible repeat (first | apply Ra_ | apply Rn_ | apply Rd_)); exact HO_4.out) hb)
          replace HO546 := mk0 (Kd.R_below (by (with_reducible repeat (first | apply Ra_ | apply Rn_ | apply Rd_)); exact HO546.out) hb)
          replace HO549 := mk0 (Kd.R_below (by (with_reducible repeat (first | apply Ra_ | apply Rn_ | apply Rd_)); exact HO549.out) hb)
          replace BK536 := mk0 (blk_below (g := gb536) (o := .cells #[.int .i64 ((rd_T30 t529 (ji20)).f0), .int .i64 ((rd_T30 t529 0).f1), .bool ((rd_T30 t529 0).f2)] 30 (0, 0)) (by (with_reducible repeat (first | refine blk_drewN ?_ _ | refine blk_drew ?_ | refine blk_alloc ?_ _)); exact BK536.out) hb)
          replace HB := mk0 (below_step (by with_reducible repeat (first | exact HB.out | apply ba_ | apply bn_ | apply bd_ | refine below_set ?_ GE536.out)) hb)
          clear hb
          refine hK.out _ _ ⟨(blk_cell BK536.out 0).trans rfl, (blk_cell BK536.out 1).trans rfl, (blk_cell BK536.out 2).trans rfl⟩ (fun hHeld => ?_)
          clear hK K
          refine norm_ (a' := ?_) ?_ ?_
          rotate_left
          ·
           show Act.put _ (some 55) _ = _
           simp only [Act.put, List.setIfInBounds_toArray, List.set_cons_zero, List.set_cons_succ, i64_w, i32_w]
           rfl
          refine pure_ (i := 8) (N := some 56) (v := ?_) (a' := ?_) #[true, true, true, true, true, true, true, true, true, false] rfl rfl (any_of HT_.out (by kernel_rfl)) (fun _ _ _ h => h) (Or.inl ⟨by rfl, ?_⟩) ?_ ?_
          rotate_left
          ·
           intro w'
           go_simp
           with_reducible rfl
          rotate_left
          ·
           simp only [Act.put, List.setIfInBounds_toArray, List.set_cons_zero, List.set_cons_succ, i64_w, i32_w]
           rfl
          refine pure_ (i := 9) (N := some 2) (v := ?_) (a' := ?_) #[true, true, true, true, true, true, true, true, true, true] rfl rfl (any_of HT_.out (by kernel_rfl)) (fun _ _ _ h => h) (Or.inl ⟨by rfl, ?_⟩) ?_ ?_
          rotate_left
          ·
           intro w'
           go_simp
           with_reducible rfl
          rotate_left
          ·
           simp only [Act.put, List.setIfInBounds_toArray, List.set_cons_zero, List.set_cons_succ, i64_w, i32_w]
           rfl
          refine done_ (done_of HT_.out (by kernel_rfl)) ?_
          try go_wp2
          go_ret
          exact ⟨by first | rfl | (simp [errW_none, errW_some] <;> rfl) | (simp only [← hji20]; first | rfl | (simp [errW_none, errW_some] <;> rfl)) | (simp [*, errW_none, errW_some] <;> rfl), by with_reducible repeat (first | exact HB.out | apply ba_ | apply bn_ | apply bd_ | refine below_set ?_ GE536.out)⟩
         ·
          rw [if_neg c24] at H
          exact nn_ H
        ·
         rw [if_neg c23] at H
         exact nn_ H
       ·
        rw [if_neg c22] at H
        exact nn_ H
      ·
       rw [if_neg c21] at H
       exact nn_ H
     ·
      rw [if_neg c19] at H
      exact nn_ H
end Go.Proofs.YtlcdffhhimbbmaaDoor.PFnValidLog
