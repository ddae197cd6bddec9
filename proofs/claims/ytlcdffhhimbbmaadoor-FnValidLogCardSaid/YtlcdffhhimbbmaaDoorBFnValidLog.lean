/- The body of the law FnValidLog, walked: cut by a program of mine from what print.sh printed, with my contracts of what it calls. -/
import Derived.Test.YtlcdffhhimbbmaaDoorShimLog
namespace Go.Proofs.YtlcdffhhimbbmaaDoor.PFnValidLog
open Go Go.RowKit Go.Proofs.YtlcdffhhimbbmaaDoorW.PrintWords Go.Proofs.YtlcdffhhimbbmaaDoorW.PrintLast Go.Proofs.YtlcdffhhimbbmaaDoorW.PrintMore
attribute [local go_sem] max2_int min2_int max_two min_two max_three min_three max_four min_four
set_option linter.unusedVariables false
set_option linter.unusedSimpArgs false
def laws_FnValidLog.j0 : Nat → List (S41) → List (S30) → Bool → Bool → Option (Bool)
 | 0, _, _, _, _ => none
 | k + 1, x3, x4, x5, x30 => if x30 = true then ((spec_ValidLog.f k x3 x4).bind fun t534 => (some (x5 == t534))) else (if 0 ≤ (wrap64 ((x4.length : Int) - 1)) then (if (wrap64 ((x4.length : Int) - 1)) ≤ (x4.length : Int) then ((impl_ValidLog.f k x3 (x4.take ((wrap64 ((x4.length : Int) - 1)) : Int).toNat)).bind fun t540 => (if t540 = true then ((impl_ValidLog.f k x3 ([] : List (S30))).bind fun t541 => (some t541)) else (some false))) else (none)) else (none))
def laws_FnValidLog.f (k : Nat) (l0 : List Int) : Option (Bool) := if (l0.length : Int) > 1048576 then (some true) else ((spec_DrawValidLog.f k l0).bind fun bt526 => ((impl_ValidLog.f k bt526.1 bt526.2).bind fun t532 => ((spec_ValidLog.f k bt526.1 bt526.2).bind fun t533 => (if (t532 != t533) = true then (laws_FnValidLog.j0 k bt526.1 bt526.2 t532 true) else (if t532 = true then (laws_FnValidLog.j0 k bt526.1 bt526.2 t532 ((bt526.2.length : Int) == 0)) else (laws_FnValidLog.j0 k bt526.1 bt526.2 t532 true))))))
set_option maxHeartbeats 8000000 in
set_option maxRecDepth 100000 in
theorem laws_FnValidLog.calls (k : Nat) (A0 : Option Addr) (c0 : Nat) (l0 : List Int) (r : Bool) (w : World) (hT : Tab w) (hr0 : Kd.C (Kd.int .u8) w A0 l0.length l0) (hc0 : l0.length ≤ c0) (h : laws_FnValidLog.f k l0 = some r) :
  Calls Tryd.prog 3 #[.slice A0 l0.length c0] w fun e w' => e = .returned (.bool r) ∧ Below w.heap.size w w' := by
 have HT := mk0 hT
 clear hT
 have HR0 := mk0 hr0
 have HC0 := mk0 hc0
 clear hr0 hc0
 have HB := mk0 (Below.refl w.heap.size w)
 have H : (if (l0.length : Int) > 1048576 then (some true) else ((spec_DrawValidLog.f k l0).bind fun bt526 => ((impl_ValidLog.f k bt526.1 bt526.2).bind fun t532 => ((spec_ValidLog.f k bt526.1 bt526.2).bind fun t533 => (if (t532 != t533) = true then (laws_FnValidLog.j0 k bt526.1 bt526.2 t532 true) else (if t532 = true then (laws_FnValidLog.j0 k bt526.1 bt526.2 t532 ((bt526.2.length : Int) == 0)) else (laws_FnValidLog.j0 k bt526.1 bt526.2 t532 true))))))) = some r := h
 clear h
 by_cases c2 : (l0.length : Int) > 1048576
 ·
  rw [if_pos c2] at H
  have c2b0 : decide (1048576 < (l0.length : Int)) = true := decide_eq_true c2
  have c2b1 : decide (1048576 < l0.length) = true := decide_eq_true (by omega)
  clear c2
  obtain rfl := Option.some.inj H
  go_enter Tryd.func3, Tryd.ntmps3
  go_wp2
  go_ret
  exact ⟨by first | rfl | (simp [errW_none, errW_some] <;> rfl) | (simp [*, errW_none, errW_some] <;> rfl), by repeat (first | (with_reducible first | exact HB.out | apply ba_ | apply bn_ | apply bd_) | exact HB.out)⟩
 ·
  rw [if_neg c2] at H
  have c2b0 : decide (1048576 < (l0.length : Int)) = false := decide_eq_false c2
  have c2b1 : decide (1048576 < l0.length) = false := decide_eq_false (by omega)
  clear c2
  replace H := Option.bind_eq_some_iff.mp H
  obtain ⟨⟨t526, t529⟩, A30, H⟩ := H
  have A3 := mk0 A30
  clear A30
  replace H := Option.bind_eq_some_iff.mp H
  obtain ⟨t532, A40, H⟩ := H
  have A4 := mk0 A40
  clear A40
  have HC5 := mk0 H
  clear H
  go_enter Tryd.func3, Tryd.ntmps3
  go_upto_region 5 with (first | ((with_reducible refine gate_callee (f := 9) rfl ?_); refine goesL_ (some 11) rfl rfl Tryd.func9 (by kernel_rfl) rfl #[.slice A0 l0.length c0] rfl (by (try simp only [List.map_toArray, List.map_cons, List.map_nil]); first | done | rfl | (simp only [List.length_drop, List.length_take]; rfl)) ?_; (with_reducible refine (spec_DrawValidLog.calls k _ _ l0 t526 t529 _ ?side1 ?side2 A3.out).mono ?_); (case side1 => repeat (first | exact HR0.out | (with_reducible refine Kd.C_alloc ?_ _) | (with_reducible refine Kd.C_drewN ?_ _) | (with_reducible refine Kd.C_drew ?_))); (case side2 => exact HC0.out); rintro e w6 ⟨v527, v530, rfl, ho0, ho1, hb⟩; refine ⟨_, rfl, ?_⟩; have n0_ := mk0 (Kd.N_lower (Kd.N_mono (ok' := fun k_ => some k_ ≠ (v530 : Value).ownBlock) ho0 (fun k_ hk_ => hk_.2)) (below_size (by repeat (first | (with_reducible first | exact HB.out | apply ba_ | apply bn_ | apply bd_) | exact HB.out)))); have n1_ := mk0 (Kd.R_lower (Kd.R_mono (ok' := fun k_ => True) ho1 (fun _ hk_ => trivial)) (below_size (by repeat (first | (with_reducible first | exact HB.out | apply ba_ | apply bn_ | apply bd_) | exact HB.out)))); have n2_ := mk0 (below_step (by repeat (first | (with_reducible first | exact HB.out | apply ba_ | apply bn_ | apply bd_) | exact HB.out)) hb); clear HB; have HO528 := n0_; have HO531 := n1_; have HB := n2_; clear n0_ n1_ n2_; (try clear hb); (try clear hb2); (try clear hk); (try clear hi); (try clear ho0); (try clear ho1); obtain ⟨Ao7, co7, eo7⟩ := Kd.N_slice HO528.out; subst eo7; obtain ⟨Ao8, co8, eo8⟩ := Kd.R_slice HO531.out; subst eo8) | ((with_reducible refine gate_callee (f := 10) rfl ?_); refine goesL_ (some 16) rfl rfl Tryd.func10 (by kernel_rfl) rfl #[.slice Ao7 t526.length co7, .slice Ao8 t529.length co8] rfl (by (try simp only [List.map_toArray, List.map_cons, List.map_nil]); first | done | rfl | (simp only [List.length_drop, List.length_take]; rfl)) ?_; (with_reducible refine (impl_ValidLog.calls k _ _ t526 _ _ t529 t532 _ ?side1 ?side2 ?side3 ?side4 ?side99 A4.out).mono ?_); (case side99 => exact Tab.keep HT.out HT.out.lt (by repeat (first | (with_reducible first | exact HB.out | apply ba_ | apply bn_ | apply bd_) | exact HB.out))); (case side1 => repeat (first | exact (Kd.N_reads' HO528.out).2.2 | (with_reducible refine Kd.C_alloc ?_ _) | (with_reducible refine Kd.C_drewN ?_ _) | (with_reducible refine Kd.C_drew ?_))); (case side2 => exact (Kd.N_reads' HO528.out).2.1); (case side3 => repeat (first | exact (Kd.R_reads' HO531.out).2.2 | (with_reducible refine Kd.C_alloc ?_ _) | (with_reducible refine Kd.C_drewN ?_ _) | (with_reducible refine Kd.C_drew ?_))); (case side4 => exact (Kd.R_reads' HO531.out).2.1); rintro e w9 ⟨rfl, hb⟩; refine ⟨_, rfl, ?_⟩; have n0_ := mk0 (Kd.N_below (by (with_reducible repeat (first | apply Na_ | apply Nn_ | apply Nd_)); exact HO528.out) hb); have n1_ := mk0 (Kd.R_below (by (with_reducible repeat (first | apply Ra_ | apply Rn_ | apply Rd_)); exact HO531.out) hb); have n2_ := mk0 (below_step (by repeat (first | (with_reducible first | exact HB.out | apply ba_ | apply bn_ | apply bd_) | exact HB.out)) hb); clear HO528; clear HO531; clear HB; have HO528 := n0_; have HO531 := n1_; have HB := n2_; clear n0_ n1_ n2_; (try clear hb); (try clear hb2); (try clear hk); (try clear hi)))
  (try simp only [Act.put, List.setIfInBounds_toArray, List.set_cons_zero, List.set_cons_succ])
  go_cut [30] (fun v30 wc => ∃ (kq : Nat) (x30_4 : Bool), v30 = .bool x30_4 ∧ Aside0 (laws_FnValidLog.j0 kq t526 t529 t532 x30_4 = some r) ∧ Aside0 (kq ≤ k) ∧ Aside0 (Kd.N k41 41 wc w.heap.size (fun k_ => some k_ ≠ ((.slice Ao8 t529.length co8) : Value).ownBlock) (.slice Ao7 t526.length co7) t526) ∧ Aside0 (Kd.R k30 30 wc w.heap.size (fun _ => True) (.slice Ao8 t529.length co8) t529) ∧ Aside0 (Below w.heap.size w wc))
  case first =>
   have H := HC5.out
   clear HC5
   replace H := Option.bind_eq_some_iff.mp H
   obtain ⟨t533, A100, H⟩ := H
   have A10 := mk0 A100
   clear A100
   by_cases c11 : (t532 != t533) = true
   ·
    rw [if_pos c11] at H
    have c11b0 : (t532 != t533) = true := c11
    (try (have c11b1 : decide (t532 = t533) = false := by simpa using c11))
    (try (have c11b2 : (t532 == t533) = false := by simpa using c11))
    (try (have c11b3 : ¬ (t532 = t533) := by simpa using c11))
    clear c11
    (first | rw [c11b0] | (simp only [i64_w, i32_w]; rw [c11b0]) | skip)
    have H' := mk0 H
    clear H
    go_wp2_with (first | ((with_reducible refine gate_callee (f := 11) rfl ?_); refine goesL_ (some 20) rfl rfl Tryd.func11 (by kernel_rfl) rfl #[.slice Ao7 t526.length co7, .slice Ao8 t529.length co8] rfl (by (try simp only [List.map_toArray, List.map_cons, List.map_nil]); first | done | rfl | (simp only [List.length_drop, List.length_take]; rfl)) ?_; (with_reducible refine (spec_ValidLog.calls k _ _ t526 _ _ t529 t533 _ ?side1 ?side2 ?side3 ?side4 A10.out).mono ?_); (case side1 => repeat (first | exact (Kd.N_reads' HO528.out).2.2 | (with_reducible refine Kd.C_alloc ?_ _) | (with_reducible refine Kd.C_drewN ?_ _) | (with_reducible refine Kd.C_drew ?_))); (case side2 => exact (Kd.N_reads' HO528.out).2.1); (case side3 => repeat (first | exact (Kd.R_reads' HO531.out).2.2 | (with_reducible refine Kd.C_alloc ?_ _) | (with_reducible refine Kd.C_drewN ?_ _) | (with_reducible refine Kd.C_drew ?_))); (case side4 => exact (Kd.R_reads' HO531.out).2.1); rintro e w12 ⟨rfl, hb⟩; refine ⟨_, rfl, ?_⟩; have n0_ := mk0 (Kd.N_below (by (with_reducible repeat (first | apply Na_ | apply Nn_ | apply Nd_)); exact HO528.out) hb); have n1_ := mk0 (Kd.R_below (by (with_reducible repeat (first | apply Ra_ | apply Rn_ | apply Rd_)); exact HO531.out) hb); have n2_ := mk0 (below_step (by repeat (first | (with_reducible first | exact HB.out | apply ba_ | apply bn_ | apply bd_) | exact HB.out)) hb); clear HO528; clear HO531; clear HB; have HO528 := n0_; have HO531 := n1_; have HB := n2_; clear n0_ n1_ n2_; (try clear hb); (try clear hb2); (try clear hk); (try clear hi)))
    go_meet
    case rel => exact ⟨_, (true), (by first | rfl | (simp; done) | (simp [*]; done)), H', ⟨by first | omega | exact Nat.le_refl _⟩, ⟨by (with_reducible repeat (first | apply Na_ | apply Nn_ | apply Nd_)); exact HO528.out⟩, ⟨by (with_reducible repeat (first | apply Ra_ | apply Rn_ | apply Rd_)); exact HO531.out⟩, ⟨by repeat (first | (with_reducible first | exact HB.out | apply ba_ | apply bn_ | apply bd_) | exact HB.out)⟩⟩
   ·
    rw [if_neg c11] at H
    have c11b0 : (t532 != t533) = false := by simpa using c11
    (try (have c11b1 : decide (t532 = t533) = true := by simpa using c11))
    (try (have c11b2 : (t532 == t533) = true := by simpa using c11))
    clear c11
    (first | rw [c11b0] | (simp only [i64_w, i32_w]; rw [c11b0]) | skip)
    by_cases c13 : t532 = true
    ·
     subst c13
     rw [if_pos rfl] at H
     have H' := mk0 H
     clear H
     go_wp2_with (first | ((with_reducible refine gate_callee (f := 11) rfl ?_); refine goesL_ (some 20) rfl rfl Tryd.func11 (by kernel_rfl) rfl #[.slice Ao7 t526.length co7, .slice Ao8 t529.length co8] rfl (by (try simp only [List.map_toArray, List.map_cons, List.map_nil]); first | done | rfl | (simp only [List.length_drop, List.length_take]; rfl)) ?_; (with_reducible refine (spec_ValidLog.calls k _ _ t526 _ _ t529 t533 _ ?side1 ?side2 ?side3 ?side4 A10.out).mono ?_); (case side1 => repeat (first | exact (Kd.N_reads' HO528.out).2.2 | (with_reducible refine Kd.C_alloc ?_ _) | (with_reducible refine Kd.C_drewN ?_ _) | (with_reducible refine Kd.C_drew ?_))); (case side2 => exact (Kd.N_reads' HO528.out).2.1); (case side3 => repeat (first | exact (Kd.R_reads' HO531.out).2.2 | (with_reducible refine Kd.C_alloc ?_ _) | (with_reducible refine Kd.C_drewN ?_ _) | (with_reducible refine Kd.C_drew ?_))); (case side4 => exact (Kd.R_reads' HO531.out).2.1); rintro e w14 ⟨rfl, hb⟩; refine ⟨_, rfl, ?_⟩; have n0_ := mk0 (Kd.N_below (by (with_reducible repeat (first | apply Na_ | apply Nn_ | apply Nd_)); exact HO528.out) hb); have n1_ := mk0 (Kd.R_below (by (with_reducible repeat (first | apply Ra_ | apply Rn_ | apply Rd_)); exact HO531.out) hb); have n2_ := mk0 (below_step (by repeat (first | (with_reducible first | exact HB.out | apply ba_ | apply bn_ | apply bd_) | exact HB.out)) hb); clear HO528; clear HO531; clear HB; have HO528 := n0_; have HO531 := n1_; have HB := n2_; clear n0_ n1_ n2_; (try clear hb); (try clear hb2); (try clear hk); (try clear hi)))
     go_meet
     case rel => exact ⟨_, (((t529.length : Int) == 0)), (by first | rfl | (simp; done) | (simp [*]; done)), H', ⟨by first | omega | exact Nat.le_refl _⟩, ⟨by (with_reducible repeat (first | apply Na_ | apply Nn_ | apply Nd_)); exact HO528.out⟩, ⟨by (with_reducible repeat (first | apply Ra_ | apply Rn_ | apply Rd_)); exact HO531.out⟩, ⟨by repeat (first | (with_reducible first | exact HB.out | apply ba_ | apply bn_ | apply bd_) | exact HB.out)⟩⟩
    ·
     replace c13 := Bool.eq_false_iff.mpr c13
     subst c13
     rw [if_neg (show ¬ (false = true) by decide)] at H
     have H' := mk0 H
     clear H
     go_wp2_with (first | ((with_reducible refine gate_callee (f := 11) rfl ?_); refine goesL_ (some 20) rfl rfl Tryd.func11 (by kernel_rfl) rfl #[.slice Ao7 t526.length co7, .slice Ao8 t529.length co8] rfl (by (try simp only [List.map_toArray, List.map_cons, List.map_nil]); first | done | rfl | (simp only [List.length_drop, List.length_take]; rfl)) ?_; (with_reducible refine (spec_ValidLog.calls k _ _ t526 _ _ t529 t533 _ ?side1 ?side2 ?side3 ?side4 A10.out).mono ?_); (case side1 => repeat (first | exact (Kd.N_reads' HO528.out).2.2 | (with_reducible refine Kd.C_alloc ?_ _) | (with_reducible refine Kd.C_drewN ?_ _) | (with_reducible refine Kd.C_drew ?_))); (case side2 => exact (Kd.N_reads' HO528.out).2.1); (case side3 => repeat (first | exact (Kd.R_reads' HO531.out).2.2 | (with_reducible refine Kd.C_alloc ?_ _) | (with_reducible refine Kd.C_drewN ?_ _) | (with_reducible refine Kd.C_drew ?_))); (case side4 => exact (Kd.R_reads' HO531.out).2.1); rintro e w15 ⟨rfl, hb⟩; refine ⟨_, rfl, ?_⟩; have n0_ := mk0 (Kd.N_below (by (with_reducible repeat (first | apply Na_ | apply Nn_ | apply Nd_)); exact HO528.out) hb); have n1_ := mk0 (Kd.R_below (by (with_reducible repeat (first | apply Ra_ | apply Rn_ | apply Rd_)); exact HO531.out) hb); have n2_ := mk0 (below_step (by repeat (first | (with_reducible first | exact HB.out | apply ba_ | apply bn_ | apply bd_) | exact HB.out)) hb); clear HO528; clear HO531; clear HB; have HO528 := n0_; have HO531 := n1_; have HB := n2_; clear n0_ n1_ n2_; (try clear hb); (try clear hb2); (try clear hk); (try clear hi)))
     go_meet
     case rel => exact ⟨_, (true), (by first | rfl | (simp; done) | (simp [*]; done)), H', ⟨by first | omega | exact Nat.le_refl _⟩, ⟨by (with_reducible repeat (first | apply Na_ | apply Nn_ | apply Nd_)); exact HO528.out⟩, ⟨by (with_reducible repeat (first | apply Ra_ | apply Rn_ | apply Rd_)); exact HO531.out⟩, ⟨by repeat (first | (with_reducible first | exact HB.out | apply ba_ | apply bn_ | apply bd_) | exact HB.out)⟩⟩
  case rest =>
   clear HC5
   try clear c1
   try clear c2
   try clear c2b0
   try clear c2b1
   try clear p2
   try clear c3
   try clear c9
   try clear c10
   try clear c11
   try clear c11b0
   try clear c11b1
   try clear c11b2
   try clear c13
   obtain ⟨kq, x30_4, rfl, HA, HJ4, HO_3, HO_4, HB⟩ := hcut
   cases kq with
   | zero => exact absurd HA.out (by simp [laws_FnValidLog.j0])
   | succ kj4 =>
    have H := HA.out
    clear HA
    simp only [laws_FnValidLog.j0] at H
    by_cases c16 : x30_4 = true
    ·
     subst c16
     rw [if_pos rfl] at H
     replace H := Option.bind_eq_some_iff.mp H
     obtain ⟨t534, A170, H⟩ := H
     have A17 := mk0 A170
     clear A170
     obtain rfl := Option.some.inj H
     go_wp2_with (first | ((with_reducible refine gate_callee (f := 11) rfl ?_); refine goesL_ (some 34) rfl rfl Tryd.func11 (by kernel_rfl) rfl #[.slice Ao7 t526.length co7, .slice Ao8 t529.length co8] rfl (by (try simp only [List.map_toArray, List.map_cons, List.map_nil]); first | done | rfl | (simp only [List.length_drop, List.length_take]; rfl)) ?_; (with_reducible refine (spec_ValidLog.calls kj4 _ _ t526 _ _ t529 t534 _ ?side1 ?side2 ?side3 ?side4 A17.out).mono ?_); (case side1 => repeat (first | exact (Kd.N_reads' HO_3.out).2.2 | (with_reducible refine Kd.C_alloc ?_ _) | (with_reducible refine Kd.C_drewN ?_ _) | (with_reducible refine Kd.C_drew ?_))); (case side2 => exact (Kd.N_reads' HO_3.out).2.1); (case side3 => repeat (first | exact (Kd.R_reads' HO_4.out).2.2 | (with_reducible refine Kd.C_alloc ?_ _) | (with_reducible refine Kd.C_drewN ?_ _) | (with_reducible refine Kd.C_drew ?_))); (case side4 => exact (Kd.R_reads' HO_4.out).2.1); rintro e w18 ⟨rfl, hb⟩; refine ⟨_, rfl, ?_⟩; have n0_ := mk0 (Kd.N_below (by (with_reducible repeat (first | apply Na_ | apply Nn_ | apply Nd_)); exact HO_3.out) hb); have n1_ := mk0 (Kd.R_below (by (with_reducible repeat (first | apply Ra_ | apply Rn_ | apply Rd_)); exact HO_4.out) hb); have n2_ := mk0 (below_step (by repeat (first | (with_reducible first | exact HB.out | apply ba_ | apply bn_ | apply bd_) | exact HB.out)) hb); clear HO_3; clear HO_4; clear HB; have HO_3 := n0_; have HO_4 := n1_; have HB := n2_; clear n0_ n1_ n2_; (try clear hb); (try clear hb2); (try clear hk); (try clear hi)))
     go_ret
     exact ⟨by first | rfl | (simp [errW_none, errW_some] <;> rfl) | (simp [*, errW_none, errW_some] <;> rfl), by repeat (first | (with_reducible first | exact HB.out | apply ba_ | apply bn_ | apply bd_) | exact HB.out)⟩
    ·
     replace c16 := Bool.eq_false_iff.mpr c16
     subst c16
     rw [if_neg (show ¬ (false = true) by decide)] at H
     obtain ⟨ji19, hji19⟩ : ∃ j_ : Int, (wrap64 ((t529.length : Int) - 1)) = j_ := ⟨_, rfl⟩
     replace H : (if 0 ≤ (ji19) then (if (ji19) ≤ (t529.length : Int) then ((impl_ValidLog.f kj4 t526 (t529.take ((ji19) : Int).toNat)).bind fun t540 => (if t540 = true then ((impl_ValidLog.f kj4 t526 ([] : List (S30))).bind fun t541 => (some t541)) else (some false))) else (none)) else (none)) = some r := by first | (rw [hji19] at H; exact H) | (simp only [hji19] at H ⊢; exact H)
     have hji19w : (IntKind.i64.wrap ((t529.length : Int) - 1)) = ji19 := (i64_w _).trans hji19
     by_cases c20 : 0 ≤ (ji19)
     ·
      rw [if_pos c20] at H
      have c20b0 := eq_true c20
      have c20b1 : decide (0 ≤ (ji19)) = true := decide_eq_true c20
      clear c20
      by_cases c21 : (ji19) ≤ (t529.length : Int)
      ·
       rw [if_pos c21] at H
       have c21b0 := eq_true c21
       have c21b1 : decide ((ji19) ≤ (t529.length : Int)) = true := decide_eq_true c21
       clear c21
       obtain ⟨y535, hy535⟩ : ∃ y_ : List (S30), y_ = (t529.take ((ji19) : Int).toNat) := ⟨_, rfl⟩
       replace H : ((impl_ValidLog.f kj4 t526 y535).bind fun t540 => (if t540 = true then ((impl_ValidLog.f kj4 t526 ([] : List (S30))).bind fun t541 => (some t541)) else (some false))) = some r := by first | (rw [hy535]; with_reducible exact H) | (rw [hy535]; exact (Option.bind_some _ _).symm.trans H) | (rw [hy535]; exact H) | exact H
       have Ny535 := mk0 hy535
       clear hy535
       replace H := Option.bind_eq_some_iff.mp H
       obtain ⟨t540, A220, H⟩ := H
       have A22 := mk0 A220
       clear A220
       by_cases c23 : t540 = true
       ·
        subst c23
        rw [if_pos rfl] at H
        replace H := Option.bind_eq_some_iff.mp H
        obtain ⟨t541, A240, H⟩ := H
        have A24 := mk0 A240
        clear A240
        obtain rfl := Option.some.inj H
        have q25 : ((ji19) : Int) ≤ ((t529.length : Int) : Int) := od_ (by with_reducible assumption)
        obtain ⟨i025, hi025, _, hsz25, _⟩ := info_parts info30
        have hroom25 : t529.length ≤ co8 := (Kd.R_reads' HO_4.out).2.1
        have hC25 : Kd.F k30 _ _ Ao8 t529.length t529 := (Kd.V_at (base := w.heap.size) (Kd.R_V (Kd.R_apart' (HO_4.out) (Kd.N_typed HO_3.out) (by decide)))).2.2
        have hcut25 := cut_to (P := Tryd.prog) 24 30 .i64 Tryd.underlying24 hi025 Ao8 t529.length co8 (ji19) (od_ (by with_reducible assumption)) q25 hroom25
        have hr25 := Kd.F_take (m := ((ji19) : Int).toNat) hC25 (by omega)
        have hy25 : y535.length = ((ji19) : Int).toNat := (by rw [Ny535.out, List.length_take]; omega)
        rw [← Ny535.out] at hr25
        rw [← hy25] at hcut25
        have HO539 := mk0 (show Kd.V k30 30 _ w.heap.size _ (.slice Ao8 y535.length co8) y535 from Kd.V_mk (by omega) hr25)
        have HC539 := mk0 (show y535.length ≤ co8 from by omega)
        clear hr25 hC25 hroom25 hi025 hsz25
        have KY25 := mk0 hy25
        clear hy25
        replace q25 := eq_true q25
        go_wp2_with (first | ((with_reducible refine gate_callee (f := 10) rfl ?_); refine goesL_ (some 42) rfl rfl Tryd.func10 (by kernel_rfl) rfl #[.slice Ao7 t526.length co7, .slice Ao8 y535.length co8] rfl (by (try simp only [List.map_toArray, List.map_cons, List.map_nil]); first | done | rfl | (simp only [List.length_drop, List.length_take]; rfl)) ?_; (with_reducible refine (impl_ValidLog.calls kj4 _ _ t526 _ _ y535 true _ ?side1 ?side2 ?side3 ?side4 ?side99 A22.out).mono ?_); (case side99 => exact Tab.keep HT.out HT.out.lt (by repeat (first | (with_reducible first | exact HB.out | apply ba_ | apply bn_ | apply bd_) | exact HB.out))); (case side1 => repeat (first | exact (Kd.N_reads' HO_3.out).2.2 | (with_reducible refine Kd.C_alloc ?_ _) | (with_reducible refine Kd.C_drewN ?_ _) | (with_reducible refine Kd.C_drew ?_))); (case side2 => exact (Kd.N_reads' HO_3.out).2.1); (case side3 => repeat (first | exact (Kd.V_reads' HO539.out).2.2 | (with_reducible refine Kd.C_alloc ?_ _) | (with_reducible refine Kd.C_drewN ?_ _) | (with_reducible refine Kd.C_drew ?_))); (case side4 => exact (Kd.V_reads' HO539.out).2.1); rintro e w26 ⟨rfl, hb⟩; refine ⟨_, rfl, ?_⟩; have n0_ := mk0 (Kd.N_below (by (with_reducible repeat (first | apply Na_ | apply Nn_ | apply Nd_)); exact HO_3.out) hb); have n1_ := mk0 (Kd.R_below (by (with_reducible repeat (first | apply Ra_ | apply Rn_ | apply Rd_)); exact HO_4.out) hb); have n2_ := mk0 (Kd.V_below (by (with_reducible repeat (first | apply Va_ | apply Vn_ | apply Vd_)); exact HO539.out) hb); have n3_ := mk0 (below_step (by repeat (first | (with_reducible first | exact HB.out | apply ba_ | apply bn_ | apply bd_) | exact HB.out)) hb); clear HO_3; clear HO_4; clear HO539; clear HB; have HO_3 := n0_; have HO_4 := n1_; have HO539 := n2_; have HB := n3_; clear n0_ n1_ n2_ n3_; (try clear hb); (try clear hb2); (try clear hk); (try clear hi)) | (go_at_call 10; (refine (impl_ValidLog.calls kj4 _ _ t526 _ _ ([] : List (S30)) t541 _ ?side1 ?side2 ?side3 ?side4 ?side99 A24.out).mono ?_); (case side99 => exact Tab.keep HT.out HT.out.lt (by repeat (first | (with_reducible first | exact HB.out | apply ba_ | apply bn_ | apply bd_) | exact HB.out))); (case side1 => repeat (first | exact (Kd.N_reads' HO_3.out).2.2 | (with_reducible refine Kd.C_alloc ?_ _) | (with_reducible refine Kd.C_drewN ?_ _) | (with_reducible refine Kd.C_drew ?_))); (case side2 => exact (Kd.N_reads' HO_3.out).2.1); (case side3 => exact Kd.C_nil _ _); (case side4 => exact Nat.le_refl _); rintro e w27 ⟨rfl, hb⟩; have n0_ := mk0 (Kd.N_below (by (with_reducible repeat (first | apply Na_ | apply Nn_ | apply Nd_)); exact HO_3.out) hb); have n1_ := mk0 (Kd.R_below (by (with_reducible repeat (first | apply Ra_ | apply Rn_ | apply Rd_)); exact HO_4.out) hb); have n2_ := mk0 (Kd.V_below (by (with_reducible repeat (first | apply Va_ | apply Vn_ | apply Vd_)); exact HO539.out) hb); have n3_ := mk0 (below_step (by repeat (first | (with_reducible first | exact HB.out | apply ba_ | apply bn_ | apply bd_) | exact HB.out)) hb); clear HO_3; clear HO_4; clear HO539; clear HB; have HO_3 := n0_; have HO_4 := n1_; have HO539 := n2_; have HB := n3_; clear n0_ n1_ n2_ n3_; (try clear hb); (try clear hb2); (try clear hk); (try clear hi)))
        go_ret
        exact ⟨by first | rfl | (simp [errW_none, errW_some] <;> rfl) | (simp only [← hji19]; first | rfl | (simp [errW_none, errW_some] <;> rfl)) | (simp [*, errW_none, errW_some] <;> rfl), by repeat (first | (with_reducible first | exact HB.out | apply ba_ | apply bn_ | apply bd_) | exact HB.out)⟩
       ·
        replace c23 := Bool.eq_false_iff.mpr c23
        subst c23
        rw [if_neg (show ¬ (false = true) by decide)] at H
        obtain rfl := Option.some.inj H
        have q28 : ((ji19) : Int) ≤ ((t529.length : Int) : Int) := od_ (by with_reducible assumption)
        obtain ⟨i028, hi028, _, hsz28, _⟩ := info_parts info30
        have hroom28 : t529.length ≤ co8 := (Kd.R_reads' HO_4.out).2.1
        have hC28 : Kd.F k30 _ _ Ao8 t529.length t529 := (Kd.V_at (base := w.heap.size) (Kd.R_V (Kd.R_apart' (HO_4.out) (Kd.N_typed HO_3.out) (by decide)))).2.2
        have hcut28 := cut_to (P := Tryd.prog) 24 30 .i64 Tryd.underlying24 hi028 Ao8 t529.length co8 (ji19) (od_ (by with_reducible assumption)) q28 hroom28
        have hr28 := Kd.F_take (m := ((ji19) : Int).toNat) hC28 (by omega)
        have hy28 : y535.length = ((ji19) : Int).toNat := (by rw [Ny535.out, List.length_take]; omega)
        rw [← Ny535.out] at hr28
        rw [← hy28] at hcut28
        have HO539 := mk0 (show Kd.V k30 30 _ w.heap.size _ (.slice Ao8 y535.length co8) y535 from Kd.V_mk (by omega) hr28)
        have HC539 := mk0 (show y535.length ≤ co8 from by omega)
        clear hr28 hC28 hroom28 hi028 hsz28
        have KY28 := mk0 hy28
        clear hy28
        replace q28 := eq_true q28
        go_wp2_with (first | ((with_reducible refine gate_callee (f := 10) rfl ?_); refine goesL_ (some 42) rfl rfl Tryd.func10 (by kernel_rfl) rfl #[.slice Ao7 t526.length co7, .slice Ao8 y535.length co8] rfl (by (try simp only [List.map_toArray, List.map_cons, List.map_nil]); first | done | rfl | (simp only [List.length_drop, List.length_take]; rfl)) ?_; (with_reducible refine (impl_ValidLog.calls kj4 _ _ t526 _ _ y535 false _ ?side1 ?side2 ?side3 ?side4 ?side99 A22.out).mono ?_); (case side99 => exact Tab.keep HT.out HT.out.lt (by repeat (first | (with_reducible first | exact HB.out | apply ba_ | apply bn_ | apply bd_) | exact HB.out))); (case side1 => repeat (first | exact (Kd.N_reads' HO_3.out).2.2 | (with_reducible refine Kd.C_alloc ?_ _) | (with_reducible refine Kd.C_drewN ?_ _) | (with_reducible refine Kd.C_drew ?_))); (case side2 => exact (Kd.N_reads' HO_3.out).2.1); (case side3 => repeat (first | exact (Kd.V_reads' HO539.out).2.2 | (with_reducible refine Kd.C_alloc ?_ _) | (with_reducible refine Kd.C_drewN ?_ _) | (with_reducible refine Kd.C_drew ?_))); (case side4 => exact (Kd.V_reads' HO539.out).2.1); rintro e w29 ⟨rfl, hb⟩; refine ⟨_, rfl, ?_⟩; have n0_ := mk0 (Kd.N_below (by (with_reducible repeat (first | apply Na_ | apply Nn_ | apply Nd_)); exact HO_3.out) hb); have n1_ := mk0 (Kd.R_below (by (with_reducible repeat (first | apply Ra_ | apply Rn_ | apply Rd_)); exact HO_4.out) hb); have n2_ := mk0 (Kd.V_below (by (with_reducible repeat (first | apply Va_ | apply Vn_ | apply Vd_)); exact HO539.out) hb); have n3_ := mk0 (below_step (by repeat (first | (with_reducible first | exact HB.out | apply ba_ | apply bn_ | apply bd_) | exact HB.out)) hb); clear HO_3; clear HO_4; clear HO539; clear HB; have HO_3 := n0_; have HO_4 := n1_; have HO539 := n2_; have HB := n3_; clear n0_ n1_ n2_ n3_; (try clear hb); (try clear hb2); (try clear hk); (try clear hi)))
        go_ret
        exact ⟨by first | rfl | (simp [errW_none, errW_some] <;> rfl) | (simp only [← hji19]; first | rfl | (simp [errW_none, errW_some] <;> rfl)) | (simp [*, errW_none, errW_some] <;> rfl), by repeat (first | (with_reducible first | exact HB.out | apply ba_ | apply bn_ | apply bd_) | exact HB.out)⟩
      ·
       rw [if_neg c21] at H
       exact absurd H (by simp)
     ·
      rw [if_neg c20] at H
      exact absurd H (by simp)
end Go.Proofs.YtlcdffhhimbbmaaDoor.PFnValidLog
