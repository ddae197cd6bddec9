/- Draws. Cut down, by a program of mine, from what print.sh printed for this seat. -/
import Derived.Test.YtlcdffhhimbbmaaDoorQ2
import Derived.Test.YtlcdffhhimbbmaaDoorQShim
namespace Go.Proofs.YtlcdffhhimbbmaaDoor.PFnValidLog
open Go.RowKit Go.Proofs.YtlcdffhhimbbmaaDoorW.PrintWords Go.Proofs.YtlcdffhhimbbmaaDoorW.PrintLast Go.Proofs.YtlcdffhhimbbmaaDoorW.PrintMore
attribute [local go_sem] max2_int min2_int max_two min_two max_three min_three max_four min_four
set_option linter.unusedVariables false
set_option linter.unusedSimpArgs false
/-! spec_validRoom -/
def spec_validRoom.f (k : Nat) (l0 : List Int) : Option (Bool) := if (l0.length : Int) = 3 then ((spec_allIn.f k l0 4 8).bind fun t263 => (some t263)) else (some false)
set_option maxHeartbeats 8000000 in
set_option maxRecDepth 100000 in
theorem spec_validRoom.calls (k : Nat) (A0 : Option Addr) (c0 : Nat) (l0 : List Int) (r : Bool) (w : World) (hr0 : Kd.C (Kd.int .i64) w A0 l0.length l0) (hc0 : l0.length ≤ c0) (h : spec_validRoom.f k l0 = some r) :
  Calls Tryd.prog 89 #[.slice A0 l0.length c0] w fun e w' => e = .returned (.bool r) ∧ Drawn0 w w' := by
 have HR0 := mk0 hr0
 have HC0 := mk0 hc0
 clear hr0 hc0
 have H : (if (l0.length : Int) = 3 then ((spec_allIn.f k l0 4 8).bind fun t263 => (some t263)) else (some false)) = some r := h
 clear h
 by_cases c2 : (l0.length : Int) = 3
 ·
  rw [if_pos c2] at H
  have c2b0 : ((l0.length : Int) == 3) = true := beq_iff_eq.mpr c2
  have c2b1 : ((l0.length : Int) != 3) = false := bne_eq_false_iff_eq.mpr c2
  clear c2
  replace H := bE_ H
  obtain ⟨t263, A30, H⟩ := H
  have A3 := mk0 A30
  clear A30
  obtain rfl := Option.some.inj H
  go_enter Tryd.func89, Tryd.ntmps89
  go_wp2_with (first | (go_at_call 64; (with_reducible refine (spec_allIn.calls k _ _ l0 4 8 t263 _ ?side1 ?side2 A3.out).mono ?_); (case side1 => repeat (first | exact HR0.out | (with_reducible first | refine Ca_ ?_ _ | refine Cn_ ?_ _ | refine Cd_ ?_))); (case side2 => exact HC0.out); rintro e w' ⟨rfl, ⟨nd, rfl⟩⟩))
  go_ret
  exact ⟨by first | rfl | (simp; done) | (simp [*]; done), by repeat (first | exact Drawn0.refl _ | apply Drawn0.step)⟩
 ·
  rw [if_neg c2] at H
  have c2b0 : ((l0.length : Int) == 3) = false := beq_eq_false_iff_ne.mpr c2
  have c2b1 : ((l0.length : Int) != 3) = true := bne_iff_ne.mpr c2
  obtain rfl := Option.some.inj H
  go_enter Tryd.func89, Tryd.ntmps89
  go_wp2
  go_ret
  exact ⟨by first | rfl | (simp; done) | (simp [*]; done), by repeat (first | exact Drawn0.refl _ | apply Drawn0.step)⟩
/-! spec_tails -/
mutual
def spec_tails.l0 : Nat → List (S41) → List Int → List Int → Int → Option (List Int)
 | 0, _, _, _, _ => none
 | k + 1, x0, x3, x4, x5 => if x5 ≥ 0 then (if 0 ≤ x5 then (if x5 < (x4.length : Int) then (spec_tails.l1 k x0 x3 x4 x5 (rd x4 x5) 0 0) else (none)) else (none)) else (some x3)
def spec_tails.l1 : Nat → List (S41) → List Int → List Int → Int → Int → Int → Int → Option (List Int)
 | 0, _, _, _, _, _, _, _ => none
 | k + 1, x0, x3, x4, x5, x6, x7, x8 => if x8 < (x0.length : Int) then (if 0 ≤ x8 then ((spec_isIn.f k ((rd_T41 x0 x8).f1) x6).bind fun t272 => (if t272 = true then (if x8 < (x3.length : Int) then (spec_tails.l1 k x0 x3 x4 x5 x6 (mx x7 (rd x3 x8)) (wrap64 (x8 + 1))) else (none)) else (spec_tails.l1 k x0 x3 x4 x5 x6 x7 (wrap64 (x8 + 1))))) else (none)) else (if 0 ≤ x6 then (if x6 < (x0.length : Int) then (if x6 < (x3.length : Int) then (spec_tails.l0 k x0 (x3.set (x6 : Int).toNat (wrap64 (x7 + ((rd_T41 x0 x6).f0)))) x4 (wrap64 (x5 - 1))) else (none)) else (none)) else (none))
end
def spec_tails.f (k : Nat) (l0 : List (S41)) : Option (List Int) := if 0 ≤ (l0.length : Int) then (if ((l0.length : Int) : Int).toNat ≤ 35184372088832 then ((spec_topOrder.f k l0).bind fun t267 => (spec_tails.l0 k l0 (List.replicate ((l0.length : Int) : Int).toNat 0) t267 (wrap64 ((t267.length : Int) - 1)))) else (none)) else (none)
set_option maxHeartbeats 8000000 in
set_option maxRecDepth 100000 in
theorem spec_tails.calls (k : Nat) (A0 : Option Addr) (c0 : Nat) (l0 : List (S41)) (r : List Int) (w : World) (hr0 : Kd.C k41 w A0 l0.length l0) (hc0 : l0.length ≤ c0) (h : spec_tails.f k l0 = some r) :
  Calls Tryd.prog 66 #[.slice A0 l0.length c0] w fun e w' => ∃ v0_ : Value, e = .returned (v0_) ∧ Kd.R (Kd.int .i64) 3 w' w.heap.size (fun _ => True) v0_ r ∧ Below w.heap.size w w' := by
 have HR0 := mk0 hr0
 have HC0 := mk0 hc0
 clear hr0 hc0
 have HB := mk0 (Below.refl w.heap.size w)
 have H : (if 0 ≤ (l0.length : Int) then (if ((l0.length : Int) : Int).toNat ≤ 35184372088832 then ((spec_topOrder.f k l0).bind fun t267 => (spec_tails.l0 k l0 (List.replicate ((l0.length : Int) : Int).toNat 0) t267 (wrap64 ((t267.length : Int) - 1)))) else (none)) else (none)) = some r := h
 clear h
 by_cases c2 : 0 ≤ (l0.length : Int)
 ·
  rw [if_pos c2] at H
  have c2b0 := eq_true c2
  have c2b1 : decide (0 ≤ (l0.length : Int)) = true := decide_eq_true c2
  clear c2
  by_cases c3 : ((l0.length : Int) : Int).toNat ≤ 35184372088832
  ·
   rw [if_pos c3] at H
   have c3b0 := eq_true c3
   have c3b1 : decide (((l0.length : Int) : Int).toNat ≤ 35184372088832) = true := decide_eq_true c3
   clear c3
   obtain ⟨y264, hy264⟩ : ∃ y_ : List Int, y_ = (List.replicate ((l0.length : Int) : Int).toNat 0) := ⟨_, rfl⟩
   replace H : ((spec_topOrder.f k l0).bind fun t267 => (spec_tails.l0 k l0 y264 t267 (wrap64 ((t267.length : Int) - 1)))) = some r := by first | (rw [hy264]; with_reducible exact H) | (rw [hy264]; exact (Option.bind_some _ _).symm.trans H) | (rw [hy264]; exact H) | exact H
   have Ny264 := mk0 hy264
   clear hy264
   replace H := bE_ H
   obtain ⟨t267, A40, H⟩ := H
   have A4 := mk0 A40
   clear A40
   have H' := mk0 H
   clear H
   go_enter Tryd.func66, Tryd.ntmps66
   go_wp2_with (first | ((with_reducible refine gate_dst (N := 11) rfl ?_); refine Kd.R_make (Kd.int .i64) _ 3 rfl (N := 11) rfl 31 _ _ rfl (l0.length : Int) rfl rfl Tryd.underlying31 (.int .i64 0) 8 info3 rfl (by decide) (by omega) 0 (ok := fun _ => True) (okp := fun _ => True) rfl (fun _ hk => hk) trivial (od_ (by with_reducible assumption)) (Nat.le_trans (Nat.mul_le_mul_right _ (od_ (by with_reducible assumption) : (l0.length : Int).toNat ≤ 35184372088832)) (by omega)) (Below.refl _ _) (Nat.le_refl _) ?_; intro v265 w5 ho6 hb hg_ hnew_; clear hg_ hnew_; (first | rw [← Ny264.out] at ho6 | (simp only [Int.reduceToNat] at ho6; rw [← Ny264.out] at ho6)); have HO266 := mk0 (Kd.R_lower ho6 (below_size (by with_reducible repeat (first | exact HB.out | apply ba_ | apply bn_ | apply bd_)))); replace HB := mk0 (below_step (by with_reducible repeat (first | exact HB.out | apply ba_ | apply bn_ | apply bd_)) hb); clear hb ho6) | ((with_reducible refine gate_callee (f := 83) rfl ?_); refine goesL_ (some 13) rfl rfl Tryd.func83 (by kernel_rfl) rfl #[.slice A0 l0.length c0] rfl (by (try simp only [List.map_toArray, List.map_cons, List.map_nil]); first | done | rfl | (simp only [List.length_drop, List.length_take]; rfl)) ?_; (with_reducible refine (spec_topOrder.calls k _ _ l0 t267 _ ?side1 ?side2 A4.out).mono ?_); (case side1 => repeat (first | exact (Kd.C_below HR0.out HB.out) | (with_reducible first | refine Ca_ ?_ _ | refine Cn_ ?_ _ | refine Cd_ ?_))); (case side2 => exact HC0.out); rintro e w7 ⟨v268, rfl, ho0, hb⟩; refine ⟨_, rfl, ?_⟩; have HO269 := mk0 (Kd.R_lower (Kd.R_new' ho0 (Kd.R_lt (by (with_reducible repeat (first | apply Ra_ | apply Rn_ | apply Rd_)); exact HO266.out))) (below_size (by with_reducible repeat (first | exact HB.out | apply ba_ | apply bn_ | apply bd_)))); replace HO266 := mk0 (Kd.R_elder' (by (with_reducible repeat (first | apply Ra_ | apply Rn_ | apply Rd_)); exact HO266.out) (Kd.R_base ho0) hb); replace HB := mk0 (below_step (by with_reducible repeat (first | exact HB.out | apply ba_ | apply bn_ | apply bd_)) hb); clear hb ho0; obtain ⟨Ao8, co8, eo8⟩ := Kd.R_slice HO269.out; subst eo8))
   go_loopg [5] k (fun kq v5 w' => ∃ (x3_1 : List Int) (x5_1 : Int), v5 = .int .i64 x5_1 ∧ Aside0 (spec_tails.l0 kq l0 x3_1 t267 x5_1 = some r) ∧ Aside0 (kq ≤ k) ∧ Aside0 (Kd.R (Kd.int .i64) 3 w' w.heap.size (fun k_ => some k_ ≠ ((.slice Ao8 t267.length co8) : Value).ownBlock) v265 x3_1) ∧ Aside0 (Kd.R (Kd.int .i64) 3 w' w.heap.size (fun k_ => some k_ ≠ (v265 : Value).ownBlock) (.slice Ao8 t267.length co8) t267) ∧ Aside0 (Below w.heap.size w w'))
   case atStart => exact ⟨(y264), (wrap64 ((t267.length : Int) - 1)), (by first | rfl | (simp; done) | (simp [*]; done)), H', ⟨Nat.le_refl _⟩, ⟨by (with_reducible repeat (first | apply Ra_ | apply Rn_ | apply Rd_)); exact Kd.R_mono HO266.out (fun _ hk => hk.2)⟩, ⟨by (with_reducible repeat (first | apply Ra_ | apply Rn_ | apply Rd_)); exact Kd.R_mono HO269.out (fun _ hk => hk.2)⟩, ⟨by with_reducible repeat (first | exact HB.out | apply ba_ | apply bn_ | apply bd_)⟩⟩
   case round =>
    clear H'
    try clear c2
    try clear c2b0
    try clear c2b1
    try clear p2
    try clear c3
    try clear c3b0
    try clear c3b1
    try clear c6
    try clear p6
    try clear c8
    obtain ⟨x3_1, x5_1, rfl, HA, HK1, HO_3, HO_4, HB⟩ := hrel
    cases gk with
    | zero => exact absurd HA.out (by simp [spec_tails.l0])
    | succ k1 =>
     have H := HA.out
     clear HA
     simp only [spec_tails.l0] at H
     by_cases c9 : x5_1 ≥ 0
     ·
      rw [if_pos c9] at H
      have c9b0 : decide (0 ≤ x5_1) = true := decide_eq_true c9
      clear c9
      by_cases c10 : 0 ≤ x5_1
      ·
       rw [if_pos c10] at H
       have c10b0 : decide (0 ≤ x5_1) = true := decide_eq_true c10
       clear c10
       by_cases c11 : x5_1 < (t267.length : Int)
       ·
        rw [if_pos c11] at H
        have c11b0 : decide (x5_1 < (t267.length : Int)) = true := decide_eq_true c11
        clear c11
        have H' := mk0 H
        clear H
        have p270 : 0 ≤ (x5_1 : Int) := od_ (by with_reducible assumption)
        have q270 : x5_1 < (t267.length : Int) := od_ (by with_reducible assumption)
        obtain ⟨ad270, e270, hx270_0⟩ := Kd.at_int (Kd.R_reads' HO_4.out).2.2 x5_1 p270 q270
        cases e270
        replace p270 := eq_true p270
        replace q270 := eq_true q270
        go_wp2
        go_loopg [7, 8] k1 (fun kq v7 v8 w' => ∃ (x7_2 : Int) (x8_2 : Int), v7 = .int .i64 x7_2 ∧ v8 = .int .i64 x8_2 ∧ Aside0 (spec_tails.l1 kq l0 x3_1 t267 x5_1 (rd t267 x5_1) x7_2 x8_2 = some r) ∧ Aside0 (kq ≤ k1) ∧ Aside0 (Kd.R (Kd.int .i64) 3 w' w.heap.size (fun k_ => some k_ ≠ ((.slice (some ad270) t267.length co8) : Value).ownBlock) v265 x3_1) ∧ Aside0 (Kd.R (Kd.int .i64) 3 w' w.heap.size (fun k_ => some k_ ≠ (v265 : Value).ownBlock) (.slice (some ad270) t267.length co8) t267) ∧ Aside0 (Below w.heap.size w w'))
        case atStart => exact ⟨(0), (0), (by first | rfl | (simp; done) | (simp [*]; done)), (by first | rfl | (simp; done) | (simp [*]; done)), H', ⟨Nat.le_refl _⟩, ⟨by (with_reducible repeat (first | apply Ra_ | apply Rn_ | apply Rd_)); exact HO_3.out⟩, ⟨by (with_reducible repeat (first | apply Ra_ | apply Rn_ | apply Rd_)); exact HO_4.out⟩, ⟨by with_reducible repeat (first | exact HB.out | apply ba_ | apply bn_ | apply bd_)⟩⟩
        case round =>
         clear H'
         try clear c1
         try clear c2
         try clear c2b0
         try clear c2b1
         try clear p2
         try clear q2
         try clear hx2
         try clear c3
         try clear c3b0
         try clear c3b1
         try clear c6
         try clear p6
         try clear c8
         try clear c9
         try clear c9b0
         try clear c10
         try clear c10b0
         try clear c11
         try clear c11b0
         try clear hx270_0
         try clear p2
         try clear p270
         try clear p6
         try clear q270
         obtain ⟨x7_2, x8_2, rfl, rfl, HA, HK2, HO_3, HO_4, HB⟩ := hrel
         cases gk with
         | zero => exact absurd HA.out (by simp [spec_tails.l1])
         | succ k2 =>
          have H := HA.out
          clear HA
          simp only [spec_tails.l1] at H
          by_cases c12 : x8_2 < (l0.length : Int)
          ·
           rw [if_pos c12] at H
           have c12b0 : decide (x8_2 < (l0.length : Int)) = true := decide_eq_true c12
           clear c12
           by_cases c13 : 0 ≤ x8_2
           ·
            rw [if_pos c13] at H
            have c13b0 : decide (0 ≤ x8_2) = true := decide_eq_true c13
            clear c13
            replace H := bE_ H
            obtain ⟨t272, A140, H⟩ := H
            have A14 := mk0 A140
            clear A140
            by_cases c15 : t272 = true
            ·
             subst c15
             rw [if_pos rfl] at H
             by_cases c16 : x8_2 < (x3_1.length : Int)
             ·
              rw [if_pos c16] at H
              have c16b0 : decide (x8_2 < (x3_1.length : Int)) = true := decide_eq_true c16
              clear c16
              obtain ⟨ji17, hji17⟩ : ∃ j_ : Int, (mx x7_2 (rd x3_1 x8_2)) = j_ := ⟨_, rfl⟩
              replace H : (spec_tails.l1 k2 l0 x3_1 t267 x5_1 (rd t267 x5_1) ji17 (wrap64 (x8_2 + 1))) = some r := by first | (rw [hji17] at H; exact H) | (simp only [hji17] at H ⊢; exact H)
              (try rw [hji17] at A14)
              have hji17_ : (if x7_2 < (rd x3_1 x8_2) then (rd x3_1 x8_2) else x7_2) = ji17 := hji17
              have H' := mk0 H
              clear H
              have p271 : 0 ≤ (x8_2 : Int) := od_ (by with_reducible assumption)
              have q271 : x8_2 < (l0.length : Int) := od_ (by with_reducible assumption)
              obtain ⟨ad271, A271_1, c271_1, e271, hx271_0, hx271_1, hx271_2, hx271_3, hl271_1, hi271_1⟩ := at_T41 HR0.out x8_2 p271 q271
              cases e271
              replace hx271_0 := (HB.out.cell (World.block_lt_of_cell? w _ hx271_0)).trans hx271_0
              replace hx271_1 := (HB.out.cell (World.block_lt_of_cell? w _ hx271_1)).trans hx271_1
              replace hx271_2 := (HB.out.cell (World.block_lt_of_cell? w _ hx271_2)).trans hx271_2
              replace hx271_3 := (HB.out.cell (World.block_lt_of_cell? w _ hx271_3)).trans hx271_3
              have HR271_1 := mk0 hi271_1
              have HC271_1 := mk0 hl271_1
              clear hi271_1 hl271_1
              replace p271 := eq_true p271
              replace q271 := eq_true q271
              go_wp2_with (first | ((with_reducible refine gate_callee (f := 68) rfl ?_); refine goesL_ (some 37) rfl rfl Tryd.func68 (by kernel_rfl) rfl #[.slice A271_1 ((rd_T41 l0 x8_2).f1).length c271_1, .int .i64 (rd t267 x5_1)] rfl (by (try simp only [List.map_toArray, List.map_cons, List.map_nil]); first | done | rfl | (simp only [List.length_drop, List.length_take]; rfl)) ?_; (with_reducible refine (spec_isIn.calls k2 _ _ ((rd_T41 l0 x8_2).f1) (rd t267 x5_1) true _ ?side1 ?side2 A14.out).mono ?_); (case side1 => repeat (first | exact (Kd.C_below HR271_1.out HB.out) | (with_reducible first | refine Ca_ ?_ _ | refine Cn_ ?_ _ | refine Cd_ ?_))); (case side2 => exact HC271_1.out); rintro e w' ⟨rfl, ⟨nd, rfl⟩⟩; refine ⟨_, rfl, ?_⟩; obtain ⟨Ao18, co18, eo18⟩ := Kd.R_slice HO_3.out; subst eo18; have p273 : 0 ≤ (x8_2 : Int) := od_ (by with_reducible assumption); have q273 : x8_2 < (x3_1.length : Int) := od_ (by with_reducible assumption); obtain ⟨ad273, e273, hx273_0⟩ := Kd.at_int (Kd.R_reads' HO_3.out).2.2 x8_2 p273 q273; cases e273; replace p273 := eq_true p273; replace q273 := eq_true q273))
              go_roundg k2
              case measure => have := HK1.out; have := HK2.out; omega
              case rel => exact ⟨(ji17), (wrap64 (x8_2 + 1)), (by first | rfl | (simp; done) | (simp only [← hji17] <;> (first | rfl | simp)) | (simp [*]; done)), (by first | rfl | (simp; done) | (simp [*]; done)), H', ⟨by have := HK1.out; have := HK2.out; omega⟩, ⟨by (with_reducible repeat (first | apply Ra_ | apply Rn_ | apply Rd_)); exact HO_3.out⟩, ⟨by (with_reducible repeat (first | apply Ra_ | apply Rn_ | apply Rd_)); exact HO_4.out⟩, ⟨by with_reducible repeat (first | exact HB.out | apply ba_ | apply bn_ | apply bd_)⟩⟩
             ·
              rw [if_neg c16] at H
              exact nn_ H
            ·
             replace c15 := Bool.eq_false_iff.mpr c15
             subst c15
             rw [if_neg (show ¬ (false = true) by decide)] at H
             have H' := mk0 H
             clear H
             have p271 : 0 ≤ (x8_2 : Int) := od_ (by with_reducible assumption)
             have q271 : x8_2 < (l0.length : Int) := od_ (by with_reducible assumption)
             obtain ⟨ad271, A271_1, c271_1, e271, hx271_0, hx271_1, hx271_2, hx271_3, hl271_1, hi271_1⟩ := at_T41 HR0.out x8_2 p271 q271
             cases e271
             replace hx271_0 := (HB.out.cell (World.block_lt_of_cell? w _ hx271_0)).trans hx271_0
             replace hx271_1 := (HB.out.cell (World.block_lt_of_cell? w _ hx271_1)).trans hx271_1
             replace hx271_2 := (HB.out.cell (World.block_lt_of_cell? w _ hx271_2)).trans hx271_2
             replace hx271_3 := (HB.out.cell (World.block_lt_of_cell? w _ hx271_3)).trans hx271_3
             have HR271_1 := mk0 hi271_1
             have HC271_1 := mk0 hl271_1
             clear hi271_1 hl271_1
             replace p271 := eq_true p271
             replace q271 := eq_true q271
             go_wp2_with (first | ((with_reducible refine gate_callee (f := 68) rfl ?_); refine goesL_ (some 37) rfl rfl Tryd.func68 (by kernel_rfl) rfl #[.slice A271_1 ((rd_T41 l0 x8_2).f1).length c271_1, .int .i64 (rd t267 x5_1)] rfl (by (try simp only [List.map_toArray, List.map_cons, List.map_nil]); first | done | rfl | (simp only [List.length_drop, List.length_take]; rfl)) ?_; (with_reducible refine (spec_isIn.calls k2 _ _ ((rd_T41 l0 x8_2).f1) (rd t267 x5_1) false _ ?side1 ?side2 A14.out).mono ?_); (case side1 => repeat (first | exact (Kd.C_below HR271_1.out HB.out) | (with_reducible first | refine Ca_ ?_ _ | refine Cn_ ?_ _ | refine Cd_ ?_))); (case side2 => exact HC271_1.out); rintro e w' ⟨rfl, ⟨nd, rfl⟩⟩; refine ⟨_, rfl, ?_⟩))
             go_roundg k2
             case measure => have := HK1.out; have := HK2.out; omega
             case rel => exact ⟨(x7_2), (wrap64 (x8_2 + 1)), (by first | rfl | (simp; done) | (simp [*]; done)), (by first | rfl | (simp; done) | (simp [*]; done)), H', ⟨by have := HK1.out; have := HK2.out; omega⟩, ⟨by (with_reducible repeat (first | apply Ra_ | apply Rn_ | apply Rd_)); exact HO_3.out⟩, ⟨by (with_reducible repeat (first | apply Ra_ | apply Rn_ | apply Rd_)); exact HO_4.out⟩, ⟨by with_reducible repeat (first | exact HB.out | apply ba_ | apply bn_ | apply bd_)⟩⟩
           ·
            rw [if_neg c13] at H
            exact nn_ H
          ·
           rw [if_neg c12] at H
           have c12b0 : decide (x8_2 < (l0.length : Int)) = false := decide_eq_false c12
           clear c12
           by_cases c19 : 0 ≤ (rd t267 x5_1)
           ·
            rw [if_pos c19] at H
            have c19b0 : decide (0 ≤ (rd t267 x5_1)) = true := decide_eq_true c19
            clear c19
            by_cases c20 : (rd t267 x5_1) < (l0.length : Int)
            ·
             rw [if_pos c20] at H
             have c20b0 : decide ((rd t267 x5_1) < (l0.length : Int)) = true := decide_eq_true c20
             clear c20
             by_cases c21 : (rd t267 x5_1) < (x3_1.length : Int)
             ·
              rw [if_pos c21] at H
              have c21b0 : decide ((rd t267 x5_1) < (x3_1.length : Int)) = true := decide_eq_true c21
              clear c21
              obtain ⟨y275, hy275⟩ : ∃ y_ : List Int, y_ = (x3_1.set ((rd t267 x5_1) : Int).toNat (wrap64 (x7_2 + ((rd_T41 l0 (rd t267 x5_1)).f0)))) := ⟨_, rfl⟩
              replace H : (spec_tails.l0 k2 l0 y275 t267 (wrap64 (x5_1 - 1))) = some r := by first | (rw [hy275]; with_reducible exact H) | (rw [hy275]; exact (Option.bind_some _ _).symm.trans H) | (rw [hy275]; exact H) | exact H
              have Ny275 := mk0 hy275
              clear hy275
              have H' := mk0 H
              clear H
              have p274 : 0 ≤ ((rd t267 x5_1) : Int) := od_ (by with_reducible assumption)
              have q274 : (rd t267 x5_1) < (l0.length : Int) := od_ (by with_reducible assumption)
              obtain ⟨ad274, A274_1, c274_1, e274, hx274_0, hx274_1, hx274_2, hx274_3, hl274_1, hi274_1⟩ := at_T41 HR0.out (rd t267 x5_1) p274 q274
              cases e274
              replace hx274_0 := (HB.out.cell (World.block_lt_of_cell? w _ hx274_0)).trans hx274_0
              replace hx274_1 := (HB.out.cell (World.block_lt_of_cell? w _ hx274_1)).trans hx274_1
              replace hx274_2 := (HB.out.cell (World.block_lt_of_cell? w _ hx274_2)).trans hx274_2
              replace hx274_3 := (HB.out.cell (World.block_lt_of_cell? w _ hx274_3)).trans hx274_3
              have HR274_1 := mk0 hi274_1
              have HC274_1 := mk0 hl274_1
              clear hi274_1 hl274_1
              replace p274 := eq_true p274
              replace q274 := eq_true q274
              have p22 : 0 ≤ ((rd t267 x5_1) : Int) := od_ (by with_reducible assumption)
              have q22 : ((rd t267 x5_1) : Int) < ((x3_1.length : Int) : Int) := od_ (by with_reducible assumption)
              obtain ⟨go22, co22, eo22, gb22, gl22, cl22, HG22⟩ := Kd.R_form HO_3.out (by omega)
              (first | cases eo22 | (injection eo22 with ea_ en_ ec_; (first | subst ea_ | (injection ea_ with ea_; subst ea_)); subst ec_; clear en_))
              have GB22 := mk0 gb22
              have GG22 := mk0 HG22
              clear gb22 gl22 HG22
              obtain ⟨hx22_0, hf22_0⟩ := Kd.R_celln 0 HO_3.out ((rd t267 x5_1) : Int) p22 q22
              replace p22 := eq_true p22
              replace q22 := eq_true q22
              have HP23 := Kd.R_putg HO_3.out ((rd t267 x5_1) : Int) (wrap64 (x7_2 + ((rd_T41 l0 (rd t267 x5_1)).f0)))
              go_wp2_with (first | ((with_reducible refine gate_store (t := 3) (p := 53) rfl ?_); refine store_event (t := 3) (p := 53) (v := ?vo_w24) (w1 := (wr.setCell ⟨go22, ((rd t267 x5_1) : Int).toNat, none⟩ (.int .i64 (wrap64 (x7_2 + ((rd_T41 l0 (rd t267 x5_1)).f0)))))) ?hg ?ho ?hn ?hr ?_; (case ho => rfl); (case hg => rfl); (case hn => rfl); (case hr => first | (go_simp; done) | (go_simp; rfl)); intro w24 hw; have hg : wr.grownBy w24 (some go22) := (by rw [hw]; exact HP23.2); have hp_ : Kd.R (Kd.int .i64) 3 w24 w.heap.size (fun k_ => some k_ ≠ (.slice (some ad270) t267.length co8 : Value).ownBlock) (.slice (some ⟨go22, 0, none⟩) x3_1.length co22) y275 := (by rw [hw, Ny275.out]; exact HP23.1); clear HP23; replace HO_3 := mk0 (hp_); replace HO_4 := mk0 (Kd.R_after (v := (.slice (some ⟨go22, 0, none⟩) x3_1.length co22)) (v1 := (.slice (some ⟨go22, 0, none⟩) x3_1.length co22)) (ok := (fun _ => True)) (by (with_reducible repeat (first | apply Ra_ | apply Rn_ | apply Rd_)); exact Kd.R_mono HO_4.out (fun _ hk => ⟨trivial, hk⟩)) hg (.inl rfl)); replace HB := mk0 ((by rw [hw]; exact below_set (HB.out) GB22.out : Below w.heap.size w w24)); clear hg hw hp_))
              go_roundg k2
              case measure => have := HK1.out; have := HK2.out; omega
              case rel => exact ⟨(y275), (wrap64 (x5_1 - 1)), (by first | rfl | (simp; done) | (simp [*]; done)), H', ⟨by have := HK1.out; have := HK2.out; omega⟩, ⟨by (with_reducible repeat (first | apply Ra_ | apply Rn_ | apply Rd_)); exact HO_3.out⟩, ⟨by (with_reducible repeat (first | apply Ra_ | apply Rn_ | apply Rd_)); exact Kd.R_mono HO_4.out (fun _ hk => hk.2)⟩, ⟨by with_reducible repeat (first | exact HB.out | apply ba_ | apply bn_ | apply bd_)⟩⟩
             ·
              rw [if_neg c21] at H
              exact nn_ H
            ·
             rw [if_neg c20] at H
             exact nn_ H
           ·
            rw [if_neg c19] at H
            exact nn_ H
       ·
        rw [if_neg c11] at H
        exact nn_ H
      ·
       rw [if_neg c10] at H
       exact nn_ H
     ·
      rw [if_neg c9] at H
      have c9b0 : decide (0 ≤ x5_1) = false := decide_eq_false c9
      clear c9
      obtain rfl := Option.some.inj H
      go_wp2
      go_ret
      exact ⟨_, by first | rfl | (simp [errW_none, errW_some] <;> rfl) | (simp [*, errW_none, errW_some] <;> rfl), by (with_reducible repeat (first | apply Ra_ | apply Rn_ | apply Rd_)); exact Kd.R_mono HO_3.out (fun _ hk => trivial), by with_reducible repeat (first | exact HB.out | apply ba_ | apply bn_ | apply bd_)⟩
  ·
   rw [if_neg c3] at H
   exact nn_ H
 ·
  rw [if_neg c2] at H
  exact nn_ H
/-! spec_sooner -/
def spec_sooner.f (l0 : List Int) (a1 : Int) (a2 : Int) : Option (Bool) := if 0 ≤ a1 then (if a1 < (l0.length : Int) then (if 0 ≤ a2 then (if a2 < (l0.length : Int) then (if (rd l0 a1) > (rd l0 a2) then (some true) else (if (rd l0 a1) = (rd l0 a2) then (some (decide (a1 < a2))) else (some false))) else (none)) else (none)) else (none)) else (none)
set_option maxHeartbeats 8000000 in
set_option maxRecDepth 100000 in
theorem spec_sooner.calls (A0 : Option Addr) (c0 : Nat) (l0 : List Int) (a1 : Int) (a2 : Int) (r : Bool) (w : World) (hr0 : Kd.C (Kd.int .i64) w A0 l0.length l0) (hc0 : l0.length ≤ c0) (h : spec_sooner.f l0 a1 a2 = some r) :
  Calls Tryd.prog 67 #[.slice A0 l0.length c0, .int .i64 a1, .int .i64 a2] w fun e w' => e = .returned (.bool r) ∧ Drawn0 w w' := by
 have HR0 := mk0 hr0
 have HC0 := mk0 hc0
 clear hr0 hc0
 have H : (if 0 ≤ a1 then (if a1 < (l0.length : Int) then (if 0 ≤ a2 then (if a2 < (l0.length : Int) then (if (rd l0 a1) > (rd l0 a2) then (some true) else (if (rd l0 a1) = (rd l0 a2) then (some (decide (a1 < a2))) else (some false))) else (none)) else (none)) else (none)) else (none)) = some r := h
 clear h
 by_cases c4 : 0 ≤ a1
 ·
  rw [if_pos c4] at H
  have c4b0 : decide (0 ≤ a1) = true := decide_eq_true c4
  clear c4
  by_cases c5 : a1 < (l0.length : Int)
  ·
   rw [if_pos c5] at H
   have c5b0 : decide (a1 < (l0.length : Int)) = true := decide_eq_true c5
   clear c5
   by_cases c6 : 0 ≤ a2
   ·
    rw [if_pos c6] at H
    have c6b0 : decide (0 ≤ a2) = true := decide_eq_true c6
    clear c6
    by_cases c7 : a2 < (l0.length : Int)
    ·
     rw [if_pos c7] at H
     have c7b0 : decide (a2 < (l0.length : Int)) = true := decide_eq_true c7
     clear c7
     by_cases c8 : (rd l0 a1) > (rd l0 a2)
     ·
      rw [if_pos c8] at H
      have c8b0 : decide ((rd l0 a2) < (rd l0 a1)) = true := decide_eq_true c8
      clear c8
      obtain rfl := Option.some.inj H
      have p276 : 0 ≤ (a1 : Int) := od_ (by with_reducible assumption)
      have q276 : a1 < (l0.length : Int) := od_ (by with_reducible assumption)
      obtain ⟨ad276, e276, hx276_0⟩ := Kd.at_int HR0.out a1 p276 q276
      cases e276
      replace p276 := eq_true p276
      replace q276 := eq_true q276
      have p277 : 0 ≤ (a2 : Int) := od_ (by with_reducible assumption)
      have q277 : a2 < (l0.length : Int) := od_ (by with_reducible assumption)
      obtain ⟨ad277, e277, hx277_0⟩ := Kd.at_int HR0.out a2 p277 q277
      obtain rfl : ad276 = ad277 := (by injection e277)
      replace p277 := eq_true p277
      replace q277 := eq_true q277
      go_enter Tryd.func67, Tryd.ntmps67
      go_wp2
      repeat (go_quiet (fail); try go_wp2)
      go_ret
      exact ⟨by first | rfl | (simp; done) | (simp [*]; done), by repeat (first | exact Drawn0.refl _ | apply Drawn0.step)⟩
     ·
      rw [if_neg c8] at H
      have c8b0 : decide ((rd l0 a2) < (rd l0 a1)) = false := decide_eq_false c8
      clear c8
      by_cases c9 : (rd l0 a1) = (rd l0 a2)
      ·
       rw [if_pos c9] at H
       have c9b0 : ((rd l0 a1) == (rd l0 a2)) = true := beq_iff_eq.mpr c9
       have c9b1 : ((rd l0 a1) != (rd l0 a2)) = false := bne_eq_false_iff_eq.mpr c9
       clear c9
       obtain rfl := Option.some.inj H
       have p276 : 0 ≤ (a1 : Int) := od_ (by with_reducible assumption)
       have q276 : a1 < (l0.length : Int) := od_ (by with_reducible assumption)
       obtain ⟨ad276, e276, hx276_0⟩ := Kd.at_int HR0.out a1 p276 q276
       cases e276
       replace p276 := eq_true p276
       replace q276 := eq_true q276
       have p277 : 0 ≤ (a2 : Int) := od_ (by with_reducible assumption)
       have q277 : a2 < (l0.length : Int) := od_ (by with_reducible assumption)
       obtain ⟨ad277, e277, hx277_0⟩ := Kd.at_int HR0.out a2 p277 q277
       obtain rfl : ad276 = ad277 := (by injection e277)
       replace p277 := eq_true p277
       replace q277 := eq_true q277
       have p278 : 0 ≤ (a1 : Int) := od_ (by with_reducible assumption)
       have q278 : a1 < (l0.length : Int) := od_ (by with_reducible assumption)
       obtain ⟨ad278, e278, hx278_0⟩ := Kd.at_int HR0.out a1 p278 q278
       obtain rfl : ad276 = ad278 := (by injection e278)
       replace p278 := eq_true p278
       replace q278 := eq_true q278
       have p279 : 0 ≤ (a2 : Int) := od_ (by with_reducible assumption)
       have q279 : a2 < (l0.length : Int) := od_ (by with_reducible assumption)
       obtain ⟨ad279, e279, hx279_0⟩ := Kd.at_int HR0.out a2 p279 q279
       obtain rfl : ad276 = ad279 := (by injection e279)
       replace p279 := eq_true p279
       replace q279 := eq_true q279
       go_enter Tryd.func67, Tryd.ntmps67
       go_wp2
       repeat (go_quiet (fail); try go_wp2)
       go_ret
       exact ⟨by first | rfl | (simp; done) | (simp [*]; done), by repeat (first | exact Drawn0.refl _ | apply Drawn0.step)⟩
      ·
       rw [if_neg c9] at H
       have c9b0 : ((rd l0 a1) == (rd l0 a2)) = false := beq_eq_false_iff_ne.mpr c9
       have c9b1 : ((rd l0 a1) != (rd l0 a2)) = true := bne_iff_ne.mpr c9
       obtain rfl := Option.some.inj H
       have p276 : 0 ≤ (a1 : Int) := od_ (by with_reducible assumption)
       have q276 : a1 < (l0.length : Int) := od_ (by with_reducible assumption)
       obtain ⟨ad276, e276, hx276_0⟩ := Kd.at_int HR0.out a1 p276 q276
       cases e276
       replace p276 := eq_true p276
       replace q276 := eq_true q276
       have p277 : 0 ≤ (a2 : Int) := od_ (by with_reducible assumption)
       have q277 : a2 < (l0.length : Int) := od_ (by with_reducible assumption)
       obtain ⟨ad277, e277, hx277_0⟩ := Kd.at_int HR0.out a2 p277 q277
       obtain rfl : ad276 = ad277 := (by injection e277)
       replace p277 := eq_true p277
       replace q277 := eq_true q277
       have p278 : 0 ≤ (a1 : Int) := od_ (by with_reducible assumption)
       have q278 : a1 < (l0.length : Int) := od_ (by with_reducible assumption)
       obtain ⟨ad278, e278, hx278_0⟩ := Kd.at_int HR0.out a1 p278 q278
       obtain rfl : ad276 = ad278 := (by injection e278)
       replace p278 := eq_true p278
       replace q278 := eq_true q278
       have p279 : 0 ≤ (a2 : Int) := od_ (by with_reducible assumption)
       have q279 : a2 < (l0.length : Int) := od_ (by with_reducible assumption)
       obtain ⟨ad279, e279, hx279_0⟩ := Kd.at_int HR0.out a2 p279 q279
       obtain rfl : ad276 = ad279 := (by injection e279)
       replace p279 := eq_true p279
       replace q279 := eq_true q279
       go_enter Tryd.func67, Tryd.ntmps67
       go_wp2
       repeat (go_quiet (fail); try go_wp2)
       go_ret
       exact ⟨by first | rfl | (simp; done) | (simp [*]; done), by repeat (first | exact Drawn0.refl _ | apply Drawn0.step)⟩
    ·
     rw [if_neg c7] at H
     exact nn_ H
   ·
    rw [if_neg c6] at H
    exact nn_ H
  ·
   rw [if_neg c5] at H
   exact nn_ H
 ·
  rw [if_neg c4] at H
  exact nn_ H
/-! spec_byTail -/
mutual
def spec_byTail.l0 : Nat → List Int → List Int → List Int → Int → Option (List Int)
 | 0, _, _, _, _ => none
 | k + 1, x1, x5, x6, x7 => if x7 < (x1.length : Int) then (if 0 ≤ x7 then (if x5.length < 17592186044416 then ((some (x5 ++ [rd x1 x7] : List Int)).bind fun y287 => (spec_byTail.l1 k x1 y287 x6 x7 (wrap64 ((y287.length : Int) - 1)))) else (none)) else (none)) else (some x5)
def spec_byTail.l1 : Nat → List Int → List Int → List Int → Int → Int → Option (List Int)
 | 0, _, _, _, _, _ => none
 | k + 1, x1, x5, x6, x7, x8 => if x8 > 0 then (if 0 ≤ x8 then (if x8 < (x5.length : Int) then (if 0 ≤ (wrap64 (x8 - 1)) then (if (wrap64 (x8 - 1)) < (x5.length : Int) then ((spec_sooner.f x6 (rd x5 x8) (rd x5 (wrap64 (x8 - 1)))).bind fun t292 => (if t292 = true then (spec_byTail.l1 k x1 ((x5.set (x8 : Int).toNat (rd x5 (wrap64 (x8 - 1)))).set ((wrap64 (x8 - 1)) : Int).toNat (rd x5 x8)) x6 x7 (wrap64 (x8 - 1))) else (spec_byTail.l0 k x1 x5 x6 (wrap64 (x7 + 1))))) else (none)) else (none)) else (none)) else (none)) else (spec_byTail.l0 k x1 x5 x6 (wrap64 (x7 + 1)))
end
def spec_byTail.f (k : Nat) (l0 : List (S41)) (l1 : List Int) : Option (List Int) := (spec_tails.f k l0).bind fun t283 => (spec_byTail.l0 k l1 (([] : List Int)) t283 0)
set_option maxHeartbeats 8000000 in
set_option maxRecDepth 100000 in
theorem spec_byTail.calls (k : Nat) (A0 : Option Addr) (c0 : Nat) (l0 : List (S41)) (A1 : Option Addr) (c1 : Nat) (l1 : List Int) (r : List Int) (w : World) (hr0 : Kd.C k41 w A0 l0.length l0) (hc0 : l0.length ≤ c0) (hr1 : Kd.C (Kd.int .i64) w A1 l1.length l1) (hc1 : l1.length ≤ c1) (h : spec_byTail.f k l0 l1 = some r) :
  Calls Tryd.prog 37 #[.slice A0 l0.length c0, .slice A1 l1.length c1] w fun e w' => ∃ v0_ : Value, e = .returned (v0_) ∧ Kd.R (Kd.int .i64) 3 w' w.heap.size (fun _ => True) v0_ r ∧ Below w.heap.size w w' := by
 have HR0 := mk0 hr0
 have HC0 := mk0 hc0
 clear hr0 hc0
 have HR1 := mk0 hr1
 have HC1 := mk0 hc1
 clear hr1 hc1
 have HB := mk0 (Below.refl w.heap.size w)
 have H : ((spec_tails.f k l0).bind fun t283 => (spec_byTail.l0 k l1 (([] : List Int)) t283 0)) = some r := h
 clear h
 obtain ⟨y280, hy280⟩ : ∃ y_ : List Int, y_ = (([] : List Int)) := ⟨_, rfl⟩
 replace H : ((spec_tails.f k l0).bind fun t283 => (spec_byTail.l0 k l1 y280 t283 0)) = some r := by first | (rw [hy280]; with_reducible exact H) | (rw [hy280]; exact (Option.bind_some _ _).symm.trans H) | (rw [hy280]; exact H) | exact H
 have Ny280 := mk0 hy280
 clear hy280
 replace H := bE_ H
 obtain ⟨t283, A30, H⟩ := H
 have A3 := mk0 A30
 clear A30
 have H' := mk0 H
 clear H
 go_enter Tryd.func37, Tryd.ntmps37
 go_wp2_with (first | ((with_reducible refine gate_dst (N := 10) rfl ?_); refine Kd.R_lit (Kd.int .i64) _ 3 ?hg (N := 10) ?hd (xs := ([] : List Int)) (inner := []) (ok := fun _ => True) (okp := fun _ => True) ?hr ?hp (fun _ hk => hk) trivial (Below.refl _ _) (Nat.le_refl _) (by simp) ?_; (case hd => rfl); (case hg => rfl); (case hr => first | (go_simp; done) | (go_simp; rfl)); (case hp => exact (Reps.none _ _)); intro v281 w4 ho5 hb hg_ hnew_; clear hg_ hnew_; (first | rw [← Ny280.out] at ho5 | (simp only [Int.reduceToNat] at ho5; rw [← Ny280.out] at ho5)); have HO282 := mk0 (Kd.R_lower ho5 (below_size (by with_reducible repeat (first | exact HB.out | apply ba_ | apply bn_ | apply bd_)))); replace HB := mk0 (below_step (by with_reducible repeat (first | exact HB.out | apply ba_ | apply bn_ | apply bd_)) hb); clear hb ho5) | (go_at_call 66; (with_reducible refine (spec_tails.calls k _ _ l0 t283 _ ?side1 ?side2 A3.out).mono ?_); (case side1 => repeat (first | exact (Kd.C_below HR0.out HB.out) | (with_reducible first | refine Ca_ ?_ _ | refine Cn_ ?_ _ | refine Cd_ ?_))); (case side2 => exact HC0.out); rintro e w6 ⟨v284, rfl, ho0, hb⟩; have HO285 := mk0 (Kd.R_lower (Kd.R_new' ho0 (Kd.R_lt (by (with_reducible repeat (first | apply Ra_ | apply Rn_ | apply Rd_)); exact HO282.out))) (below_size (by with_reducible repeat (first | exact HB.out | apply ba_ | apply bn_ | apply bd_)))); replace HO282 := mk0 (Kd.R_elder' (by (with_reducible repeat (first | apply Ra_ | apply Rn_ | apply Rd_)); exact HO282.out) (Kd.R_base ho0) hb); replace HB := mk0 (below_step (by with_reducible repeat (first | exact HB.out | apply ba_ | apply bn_ | apply bd_)) hb); clear hb ho0))
 repeat (go_quiet (first | ((with_reducible refine gate_dst (N := 10) rfl ?_); refine Kd.R_lit (Kd.int .i64) _ 3 ?hg (N := 10) ?hd (xs := ([] : List Int)) (inner := []) (ok := fun _ => True) (okp := fun _ => True) ?hr ?hp (fun _ hk => hk) trivial (Below.refl _ _) (Nat.le_refl _) (by simp) ?_; (case hd => rfl); (case hg => rfl); (case hr => first | (go_simp; done) | (go_simp; rfl)); (case hp => exact (Reps.none _ _)); intro v281 w4 ho5 hb hg_ hnew_; clear hg_ hnew_; (first | rw [← Ny280.out] at ho5 | (simp only [Int.reduceToNat] at ho5; rw [← Ny280.out] at ho5)); have HO282 := mk0 (Kd.R_lower ho5 (below_size (by with_reducible repeat (first | exact HB.out | apply ba_ | apply bn_ | apply bd_)))); replace HB := mk0 (below_step (by with_reducible repeat (first | exact HB.out | apply ba_ | apply bn_ | apply bd_)) hb); clear hb ho5) | (go_at_call 66; (with_reducible refine (spec_tails.calls k _ _ l0 t283 _ ?side1 ?side2 A3.out).mono ?_); (case side1 => repeat (first | exact (Kd.C_below HR0.out HB.out) | (with_reducible first | refine Ca_ ?_ _ | refine Cn_ ?_ _ | refine Cd_ ?_))); (case side2 => exact HC0.out); rintro e w6 ⟨v284, rfl, ho0, hb⟩; have HO285 := mk0 (Kd.R_lower (Kd.R_new' ho0 (Kd.R_lt (by (with_reducible repeat (first | apply Ra_ | apply Rn_ | apply Rd_)); exact HO282.out))) (below_size (by with_reducible repeat (first | exact HB.out | apply ba_ | apply bn_ | apply bd_)))); replace HO282 := mk0 (Kd.R_elder' (by (with_reducible repeat (first | apply Ra_ | apply Rn_ | apply Rd_)); exact HO282.out) (Kd.R_base ho0) hb); replace HB := mk0 (below_step (by with_reducible repeat (first | exact HB.out | apply ba_ | apply bn_ | apply bd_)) hb); clear hb ho0)); try go_wp2_with (first | ((with_reducible refine gate_dst (N := 10) rfl ?_); refine Kd.R_lit (Kd.int .i64) _ 3 ?hg (N := 10) ?hd (xs := ([] : List Int)) (inner := []) (ok := fun _ => True) (okp := fun _ => True) ?hr ?hp (fun _ hk => hk) trivial (Below.refl _ _) (Nat.le_refl _) (by simp) ?_; (case hd => rfl); (case hg => rfl); (case hr => first | (go_simp; done) | (go_simp; rfl)); (case hp => exact (Reps.none _ _)); intro v281 w4 ho5 hb hg_ hnew_; clear hg_ hnew_; (first | rw [← Ny280.out] at ho5 | (simp only [Int.reduceToNat] at ho5; rw [← Ny280.out] at ho5)); have HO282 := mk0 (Kd.R_lower ho5 (below_size (by with_reducible repeat (first | exact HB.out | apply ba_ | apply bn_ | apply bd_)))); replace HB := mk0 (below_step (by with_reducible repeat (first | exact HB.out | apply ba_ | apply bn_ | apply bd_)) hb); clear hb ho5) | (go_at_call 66; (with_reducible refine (spec_tails.calls k _ _ l0 t283 _ ?side1 ?side2 A3.out).mono ?_); (case side1 => repeat (first | exact (Kd.C_below HR0.out HB.out) | (with_reducible first | refine Ca_ ?_ _ | refine Cn_ ?_ _ | refine Cd_ ?_))); (case side2 => exact HC0.out); rintro e w6 ⟨v284, rfl, ho0, hb⟩; have HO285 := mk0 (Kd.R_lower (Kd.R_new' ho0 (Kd.R_lt (by (with_reducible repeat (first | apply Ra_ | apply Rn_ | apply Rd_)); exact HO282.out))) (below_size (by with_reducible repeat (first | exact HB.out | apply ba_ | apply bn_ | apply bd_)))); replace HO282 := mk0 (Kd.R_elder' (by (with_reducible repeat (first | apply Ra_ | apply Rn_ | apply Rd_)); exact HO282.out) (Kd.R_base ho0) hb); replace HB := mk0 (below_step (by with_reducible repeat (first | exact HB.out | apply ba_ | apply bn_ | apply bd_)) hb); clear hb ho0)))
 go_loopg [5, 7] k (fun kq v5 v7 w' => ∃ (x5_1 : List Int) (x6_1 : List Int) (x7_1 : Int), v7 = .int .i64 x7_1 ∧ Aside0 (spec_byTail.l0 kq l1 x5_1 x6_1 x7_1 = some r) ∧ Aside0 (kq ≤ k) ∧ Aside0 (Kd.R (Kd.int .i64) 3 w' w.heap.size (fun k_ => some k_ ≠ (v284 : Value).ownBlock) v5 x5_1) ∧ Aside0 (Kd.R (Kd.int .i64) 3 w' w.heap.size (fun k_ => some k_ ≠ (v5 : Value).ownBlock) v284 x6_1) ∧ Aside0 (Below w.heap.size w w'))
 case atStart => exact ⟨(y280), (t283), (0), (by first | rfl | (simp; done) | (simp [*]; done)), H', ⟨Nat.le_refl _⟩, ⟨by (with_reducible repeat (first | apply Ra_ | apply Rn_ | apply Rd_)); exact Kd.R_mono HO282.out (fun _ hk => hk.2)⟩, ⟨by (with_reducible repeat (first | apply Ra_ | apply Rn_ | apply Rd_)); exact Kd.R_mono HO285.out (fun _ hk => hk.2)⟩, ⟨by with_reducible repeat (first | exact HB.out | apply ba_ | apply bn_ | apply bd_)⟩⟩
 case round =>
  clear H'
  try clear c1
  try clear p2
  try clear c3
  obtain ⟨x5_1, x6_1, x7_1, rfl, HA, HK1, HO_5, HO_6, HB⟩ := hrel
  cases gk with
  | zero => exact absurd HA.out (by simp [spec_byTail.l0])
  | succ k1 =>
   have H := HA.out
   clear HA
   simp only [spec_byTail.l0] at H
   by_cases c7 : x7_1 < (l1.length : Int)
   ·
    rw [if_pos c7] at H
    have c7b0 : decide (x7_1 < (l1.length : Int)) = true := decide_eq_true c7
    clear c7
    by_cases c8 : 0 ≤ x7_1
    ·
     rw [if_pos c8] at H
     have c8b0 : decide (0 ≤ x7_1) = true := decide_eq_true c8
     clear c8
     by_cases c9 : x5_1.length < 17592186044416
     ·
      rw [if_pos c9] at H
      have LMc9 := mk0 c9
      clear c9
      obtain ⟨y287, hy287⟩ : ∃ y_ : List Int, y_ = (x5_1 ++ [rd l1 x7_1]) := ⟨_, rfl⟩
      replace H : (spec_byTail.l1 k1 l1 y287 x6_1 x7_1 (wrap64 ((y287.length : Int) - 1))) = some r := by first | (rw [hy287]; with_reducible exact H) | (rw [hy287]; exact (Option.bind_some _ _).symm.trans H) | (rw [hy287]; exact H) | exact H
      have Ny287 := mk0 hy287
      clear hy287
      have H' := mk0 H
      clear H
      have p286 : 0 ≤ (x7_1 : Int) := od_ (by with_reducible assumption)
      have q286 : x7_1 < (l1.length : Int) := od_ (by with_reducible assumption)
      obtain ⟨ad286, e286, hx286_0⟩ := Kd.at_int HR1.out x7_1 p286 q286
      cases e286
      replace hx286_0 := (HB.out.cell (World.block_lt_of_cell? w _ hx286_0)).trans hx286_0
      replace p286 := eq_true p286
      replace q286 := eq_true q286
      go_wp2_with (first | ((with_reducible refine gate_builtin (b := .append) (xs := #[.tmp 19, .tmp 24]) rfl ?_); at_builtin; refine Kd.R_append (Kd.int .i64) (w0 := w) w.heap.size rfl (.tmp 19) (.tmp 24) 31 3 (.int .i64 0) 8 rfl Tryd.underlying31 info3 rfl (by decide) (by omega) u5 x5_1 (rd l1 x7_1) [.int .i64 (rd l1 x7_1)] (fun k_ => some k_ ≠ (v284 : Value).ownBlock) (fun _ => False) rfl rfl ?aP (fun _ hk => hk.elim) ?aF ?aO ?aB ?aS ?aL ?_; (case aP => exact rfl); (case aB => exact (by with_reducible repeat (first | exact HB.out | apply ba_ | apply bn_ | apply bd_))); (case aF => exact (fun k_ hk => Kd.fresh' (Kd.R_lt (by (with_reducible repeat (first | apply Ra_ | apply Rn_ | apply Rd_)); exact HO_6.out)) k_ hk)); (case aO => exact (by (with_reducible repeat (first | apply Ra_ | apply Rn_ | apply Rd_)); exact HO_5.out)); (case aS => exact (below_size (by with_reducible repeat (first | exact HB.out | apply ba_ | apply bn_ | apply bd_)))); (case aL => have := LMc9.out; omega); intro v288 w10 ho hb hg hat; rw [← Ny287.out] at ho; replace HO_6 := mk0 (Kd.R_after (ok := (fun _ => True)) (by (with_reducible repeat (first | apply Ra_ | apply Rn_ | apply Rd_)); exact Kd.R_mono HO_6.out (fun _ hk => ⟨trivial, hk⟩)) hg hat); replace HB := mk0 (hb); have HO289 := mk0 (ho); clear HO_5; clear ho hb hg hat; obtain ⟨Ao11, co11, eo11⟩ := Kd.R_slice HO289.out; subst eo11))
      repeat (go_quiet (first | ((with_reducible refine gate_builtin (b := .append) (xs := #[.tmp 19, .tmp 24]) rfl ?_); at_builtin; refine Kd.R_append (Kd.int .i64) (w0 := w) w.heap.size rfl (.tmp 19) (.tmp 24) 31 3 (.int .i64 0) 8 rfl Tryd.underlying31 info3 rfl (by decide) (by omega) u5 x5_1 (rd l1 x7_1) [.int .i64 (rd l1 x7_1)] (fun k_ => some k_ ≠ (v284 : Value).ownBlock) (fun _ => False) rfl rfl ?aP (fun _ hk => hk.elim) ?aF ?aO ?aB ?aS ?aL ?_; (case aP => exact rfl); (case aB => exact (by with_reducible repeat (first | exact HB.out | apply ba_ | apply bn_ | apply bd_))); (case aF => exact (fun k_ hk => Kd.fresh' (Kd.R_lt (by (with_reducible repeat (first | apply Ra_ | apply Rn_ | apply Rd_)); exact HO_6.out)) k_ hk)); (case aO => exact (by (with_reducible repeat (first | apply Ra_ | apply Rn_ | apply Rd_)); exact HO_5.out)); (case aS => exact (below_size (by with_reducible repeat (first | exact HB.out | apply ba_ | apply bn_ | apply bd_)))); (case aL => have := LMc9.out; omega); intro v288 w10 ho hb hg hat; rw [← Ny287.out] at ho; replace HO_6 := mk0 (Kd.R_after (ok := (fun _ => True)) (by (with_reducible repeat (first | apply Ra_ | apply Rn_ | apply Rd_)); exact Kd.R_mono HO_6.out (fun _ hk => ⟨trivial, hk⟩)) hg hat); replace HB := mk0 (hb); have HO289 := mk0 (ho); clear HO_5; clear ho hb hg hat; obtain ⟨Ao11, co11, eo11⟩ := Kd.R_slice HO289.out; subst eo11)); try go_wp2_with (first | ((with_reducible refine gate_builtin (b := .append) (xs := #[.tmp 19, .tmp 24]) rfl ?_); at_builtin; refine Kd.R_append (Kd.int .i64) (w0 := w) w.heap.size rfl (.tmp 19) (.tmp 24) 31 3 (.int .i64 0) 8 rfl Tryd.underlying31 info3 rfl (by decide) (by omega) u5 x5_1 (rd l1 x7_1) [.int .i64 (rd l1 x7_1)] (fun k_ => some k_ ≠ (v284 : Value).ownBlock) (fun _ => False) rfl rfl ?aP (fun _ hk => hk.elim) ?aF ?aO ?aB ?aS ?aL ?_; (case aP => exact rfl); (case aB => exact (by with_reducible repeat (first | exact HB.out | apply ba_ | apply bn_ | apply bd_))); (case aF => exact (fun k_ hk => Kd.fresh' (Kd.R_lt (by (with_reducible repeat (first | apply Ra_ | apply Rn_ | apply Rd_)); exact HO_6.out)) k_ hk)); (case aO => exact (by (with_reducible repeat (first | apply Ra_ | apply Rn_ | apply Rd_)); exact HO_5.out)); (case aS => exact (below_size (by with_reducible repeat (first | exact HB.out | apply ba_ | apply bn_ | apply bd_)))); (case aL => have := LMc9.out; omega); intro v288 w10 ho hb hg hat; rw [← Ny287.out] at ho; replace HO_6 := mk0 (Kd.R_after (ok := (fun _ => True)) (by (with_reducible repeat (first | apply Ra_ | apply Rn_ | apply Rd_)); exact Kd.R_mono HO_6.out (fun _ hk => ⟨trivial, hk⟩)) hg hat); replace HB := mk0 (hb); have HO289 := mk0 (ho); clear HO_5; clear ho hb hg hat; obtain ⟨Ao11, co11, eo11⟩ := Kd.R_slice HO289.out; subst eo11)))
      go_loopg [8] k1 (fun kq v8 w' => ∃ (x5_2 : List Int) (x8_2 : Int), v8 = .int .i64 x8_2 ∧ Aside0 (spec_byTail.l1 kq l1 x5_2 x6_1 x7_1 x8_2 = some r) ∧ Aside0 (kq ≤ k1) ∧ Aside0 (Kd.R (Kd.int .i64) 3 w' w.heap.size (fun k_ => some k_ ≠ (v284 : Value).ownBlock) (.slice Ao11 y287.length co11) x5_2) ∧ Aside0 (Kd.R (Kd.int .i64) 3 w' w.heap.size (fun k_ => some k_ ≠ ((.slice Ao11 y287.length co11) : Value).ownBlock) v284 x6_1) ∧ Aside0 (Below w.heap.size w w'))
      case atStart => exact ⟨(y287), (wrap64 ((y287.length : Int) - 1)), (by first | rfl | (simp; done) | (simp [*]; done)), H', ⟨Nat.le_refl _⟩, ⟨by (with_reducible repeat (first | apply Ra_ | apply Rn_ | apply Rd_)); exact HO289.out⟩, ⟨by (with_reducible repeat (first | apply Ra_ | apply Rn_ | apply Rd_)); exact Kd.R_mono HO_6.out (fun _ hk => hk.2)⟩, ⟨by with_reducible repeat (first | exact HB.out | apply ba_ | apply bn_ | apply bd_)⟩⟩
      case round =>
       clear H'
       try clear c1
       try clear p2
       try clear q2
       try clear hx2
       try clear c3
       try clear p6
       try clear c7
       try clear c7b0
       try clear c8
       try clear c8b0
       try clear c9
       try clear hx286_0
       try clear p2
       try clear p286
       try clear q286
       obtain ⟨x5_2, x8_2, rfl, HA, HK2, HO_5, HO_6, HB⟩ := hrel
       have hl5_2 := (Kd.R_reads' HO_5.out).1
       rw [hl5_2] at HO_5
       (try simp only [hl5_2])
       (try simp only [hl5_2] at HO_6)
       cases gk with
       | zero => exact absurd HA.out (by simp [spec_byTail.l1])
       | succ k2 =>
        have H := HA.out
        clear HA
        simp only [spec_byTail.l1] at H
        by_cases c12 : x8_2 > 0
        ·
         rw [if_pos c12] at H
         have c12b0 : decide (0 < x8_2) = true := decide_eq_true c12
         clear c12
         by_cases c13 : 0 ≤ x8_2
         ·
          rw [if_pos c13] at H
          have c13b0 : decide (0 ≤ x8_2) = true := decide_eq_true c13
          clear c13
          by_cases c14 : x8_2 < (x5_2.length : Int)
          ·
           rw [if_pos c14] at H
           have c14b0 : decide (x8_2 < (x5_2.length : Int)) = true := decide_eq_true c14
           clear c14
           obtain ⟨ji15, hji15⟩ : ∃ j_ : Int, (wrap64 (x8_2 - 1)) = j_ := ⟨_, rfl⟩
           replace H : (if 0 ≤ (ji15) then (if (ji15) < (x5_2.length : Int) then ((spec_sooner.f x6_1 (rd x5_2 x8_2) (rd x5_2 (ji15))).bind fun t292 => (if t292 = true then (spec_byTail.l1 k2 l1 ((x5_2.set (x8_2 : Int).toNat (rd x5_2 (ji15))).set ((ji15) : Int).toNat (rd x5_2 x8_2)) x6_1 x7_1 ji15) else (spec_byTail.l0 k2 l1 x5_2 x6_1 (wrap64 (x7_1 + 1))))) else (none)) else (none)) = some r := by first | (rw [hji15] at H; exact H) | (simp only [hji15] at H ⊢; exact H)
           have hji15w : (IntKind.i64.wrap (x8_2 - 1)) = ji15 := (i64_w _).trans hji15
           by_cases c16 : 0 ≤ (ji15)
           ·
            rw [if_pos c16] at H
            have c16b0 : decide (0 ≤ (ji15)) = true := decide_eq_true c16
            clear c16
            by_cases c17 : (ji15) < (x5_2.length : Int)
            ·
             rw [if_pos c17] at H
             have c17b0 : decide ((ji15) < (x5_2.length : Int)) = true := decide_eq_true c17
             clear c17
             replace H := bE_ H
             obtain ⟨t292, A180, H⟩ := H
             have A18 := mk0 A180
             clear A180
             by_cases c19 : t292 = true
             ·
              subst c19
              rw [if_pos rfl] at H
              obtain ⟨y295, hy295⟩ : ∃ y_ : List Int, y_ = (x5_2.set (x8_2 : Int).toNat (rd x5_2 (ji15))) := ⟨_, rfl⟩
              replace H : (spec_byTail.l1 k2 l1 (y295.set ((ji15) : Int).toNat (rd x5_2 x8_2)) x6_1 x7_1 ji15) = some r := by first | (rw [hy295]; with_reducible exact H) | (rw [hy295]; exact (Option.bind_some _ _).symm.trans H) | (rw [hy295]; exact H) | exact H
              have Ny295 := mk0 hy295
              clear hy295
              obtain ⟨y296, hy296⟩ : ∃ y_ : List Int, y_ = (y295.set ((ji15) : Int).toNat (rd x5_2 x8_2)) := ⟨_, rfl⟩
              replace H : (spec_byTail.l1 k2 l1 y296 x6_1 x7_1 ji15) = some r := by first | (rw [hy296]; with_reducible exact H) | (rw [hy296]; exact (Option.bind_some _ _).symm.trans H) | (rw [hy296]; exact H) | exact H
              have Ny296 := mk0 hy296
              clear hy296
              have H' := mk0 H
              clear H
              have p290 : 0 ≤ (x8_2 : Int) := od_ (by with_reducible assumption)
              have q290 : x8_2 < (x5_2.length : Int) := od_ (by with_reducible assumption)
              obtain ⟨ad290, e290, hx290_0⟩ := Kd.at_int (Kd.R_reads' HO_5.out).2.2 x8_2 p290 q290
              cases e290
              replace p290 := eq_true p290
              replace q290 := eq_true q290
              have p291 : 0 ≤ ((ji15) : Int) := od_ (by with_reducible assumption)
              have q291 : (ji15) < (x5_2.length : Int) := od_ (by with_reducible assumption)
              obtain ⟨ad291, e291, hx291_0⟩ := Kd.at_int (Kd.R_reads' HO_5.out).2.2 (ji15) p291 q291
              obtain rfl : ad290 = ad291 := (by injection e291)
              replace p291 := eq_true p291
              replace q291 := eq_true q291
              obtain ⟨Ao22, co22, eo22⟩ := Kd.R_slice HO_6.out
              subst eo22
              go_wp2_with (first | (go_at_call 67; (with_reducible refine (spec_sooner.calls _ _ x6_1 (rd x5_2 x8_2) (rd x5_2 (ji15)) true _ ?side1 ?side2 A18.out).mono ?_); (case side1 => repeat (first | exact (Kd.R_reads' HO_6.out).2.2 | (with_reducible first | refine Ca_ ?_ _ | refine Cn_ ?_ _ | refine Cd_ ?_))); (case side2 => exact (Kd.R_reads' HO_6.out).2.1); rintro e w' ⟨rfl, ⟨nd, rfl⟩⟩; (try first | exact ⟨rfl, _, World.drewN_drewN _ _ _⟩ | exact ⟨rfl, _, Eq.trans (World.drewN_drewN _ _ _) (congrArg (World.drewN _) (Nat.add_assoc _ _ _))⟩); have p293 : 0 ≤ (x8_2 : Int) := od_ (by with_reducible assumption); have q293 : x8_2 < (x5_2.length : Int) := od_ (by with_reducible assumption); obtain ⟨ad293, e293, hx293_0⟩ := Kd.at_int (Kd.R_reads' HO_5.out).2.2 x8_2 p293 q293; obtain rfl : ad290 = ad293 := (by injection e293); replace p293 := eq_true p293; replace q293 := eq_true q293; have p294 : 0 ≤ ((ji15) : Int) := od_ (by with_reducible assumption); have q294 : (ji15) < (x5_2.length : Int) := od_ (by with_reducible assumption); obtain ⟨ad294, e294, hx294_0⟩ := Kd.at_int (Kd.R_reads' HO_5.out).2.2 (ji15) p294 q294; obtain rfl : ad290 = ad294 := (by injection e294); replace p294 := eq_true p294; replace q294 := eq_true q294; have p20 : 0 ≤ (x8_2 : Int) := od_ (by with_reducible assumption); have q20 : (x8_2 : Int) < ((x5_2.length : Int) : Int) := od_ (by with_reducible assumption); obtain ⟨go20, co20, eo20, gb20, gl20, cl20, HG20⟩ := Kd.R_form HO_5.out (by omega); (first | cases eo20 | (injection eo20 with ea_ en_ ec_; (first | subst ea_ | (injection ea_ with ea_; subst ea_)); subst ec_; clear en_)); have GB20 := mk0 gb20; have GG20 := mk0 HG20; clear gb20 gl20 HG20; (first | simp only [add_plain] at hx290_0 | skip); (first | simp only [add_plain] at hx291_0 | skip); (first | simp only [add_plain] at hx293_0 | skip); (first | simp only [add_plain] at hx294_0 | skip); obtain ⟨hx20_0, hf20_0⟩ := Kd.R_celln 0 HO_5.out (x8_2 : Int) p20 q20; replace p20 := eq_true p20; replace q20 := eq_true q20; obtain ⟨hy23_, hz23_⟩ := Kd.R_celln 0 HO_5.out (x8_2 : Int) (od_ (by with_reducible assumption)) (od_ (by with_reducible assumption)); have HP23 := Kd.R_putg HO_5.out (x8_2 : Int) (rd x5_2 (ji15))) | ((with_reducible refine gate_store (t := 3) (p := 57) rfl ?_); (try (rw [drewN_self wr]; generalize hq_ : World.drewN wr _ = wr; replace HO_5 := mk0 (Kd.R_at hq_ HO_5.out); replace HO_6 := mk0 (Kd.R_at hq_ HO_6.out); replace HB := mk0 (below_at hq_ HB.out); clear hq_; (try (obtain ⟨hy23_, hz23_⟩ := Kd.R_celln 0 HO_5.out (x8_2 : Int) (od_ (by with_reducible assumption)) (od_ (by with_reducible assumption)))); (try (have HP23 := Kd.R_putg HO_5.out (x8_2 : Int) (rd x5_2 (ji15)))))); refine store_event (t := 3) (p := 57) (v := ?vo_w24) (w1 := (wr.setCell ⟨go20, (x8_2 : Int).toNat, none⟩ (.int .i64 (rd x5_2 (ji15))))) ?hg ?ho ?hn ?hr ?_; (case ho => rfl); (case hg => rfl); (case hn => rfl); (case hr => first | (go_simp; done) | (go_simp; rfl)); intro w24 hw; have hg : wr.grownBy w24 (some go20) := (by rw [hw]; exact HP23.2); have hp_ : Kd.R (Kd.int .i64) 3 w24 w.heap.size (fun k_ => some k_ ≠ (.slice Ao22 x6_1.length co22 : Value).ownBlock) (.slice (some ⟨go20, 0, none⟩) x5_2.length co11) y295 := (by rw [hw, Ny295.out]; exact HP23.1); clear HP23; replace HO_5 := mk0 (hp_); replace HO_6 := mk0 (Kd.R_after (v := (.slice (some ⟨go20, 0, none⟩) x5_2.length co11)) (v1 := (.slice (some ⟨go20, 0, none⟩) x5_2.length co11)) (ok := (fun _ => True)) (by (with_reducible repeat (first | apply Ra_ | apply Rn_ | apply Rd_)); exact Kd.R_mono HO_6.out (fun _ hk => ⟨trivial, hk⟩)) hg (.inl rfl)); replace HB := mk0 ((by rw [hw]; exact below_set (HB.out) GB20.out : Below w.heap.size w w24)); clear hg hw hp_; have p21 : 0 ≤ ((ji15) : Int) := od_ (by with_reducible assumption); have q21 : ((ji15) : Int) < ((x5_2.length : Int) : Int) := od_ (by with_reducible assumption); obtain ⟨hx21_0, hf21_0⟩ := Kd.R_celln 0 HO_5.out ((ji15) : Int) p21 q21; replace p21 := eq_true p21; replace q21 := eq_true q21; obtain ⟨hy25_, hz25_⟩ := Kd.R_celln 0 HO_5.out ((ji15) : Int) (od_ (by with_reducible assumption)) (od_ (by with_reducible assumption)); have HP25 := Kd.R_putg HO_5.out ((ji15) : Int) (rd x5_2 x8_2)) | ((with_reducible refine gate_store (t := 3) (p := 62) rfl ?_); (try (rw [drewN_self w24]; generalize hq_ : World.drewN w24 _ = w24; replace HO_5 := mk0 (Kd.R_at hq_ HO_5.out); replace HO_6 := mk0 (Kd.R_at hq_ HO_6.out); replace HB := mk0 (below_at hq_ HB.out); clear hq_; (try (obtain ⟨hy25_, hz25_⟩ := Kd.R_celln 0 HO_5.out ((ji15) : Int) (od_ (by with_reducible assumption)) (od_ (by with_reducible assumption)))); (try (have HP25 := Kd.R_putg HO_5.out ((ji15) : Int) (rd x5_2 x8_2))))); refine store_event (t := 3) (p := 62) (v := ?vo_w26) (w1 := (w24.setCell ⟨go20, ((ji15) : Int).toNat, none⟩ (.int .i64 (rd x5_2 x8_2)))) ?hg ?ho ?hn ?hr ?_; (case ho => rfl); (case hg => rfl); (case hn => rfl); (case hr => first | (go_simp; done) | (go_simp; rfl)); intro w26 hw; have hg : w24.grownBy w26 (some go20) := (by rw [hw]; exact HP25.2); have hp_ : Kd.R (Kd.int .i64) 3 w26 w.heap.size (fun k_ => some k_ ≠ (.slice Ao22 x6_1.length co22 : Value).ownBlock) (.slice (some ⟨go20, 0, none⟩) x5_2.length co11) y296 := (by rw [hw, Ny296.out]; exact HP25.1); clear HP25; replace HO_5 := mk0 (hp_); replace HO_6 := mk0 (Kd.R_after (v := (.slice (some ⟨go20, 0, none⟩) x5_2.length co11)) (v1 := (.slice (some ⟨go20, 0, none⟩) x5_2.length co11)) (ok := (fun _ => True)) (by (with_reducible repeat (first | apply Ra_ | apply Rn_ | apply Rd_)); exact HO_6.out) hg (.inl rfl)); replace HB := mk0 ((by rw [hw]; exact below_set (HB.out) GB20.out : Below w.heap.size w w26)); clear hg hw hp_))
              repeat (go_quiet (first | (go_at_call 67; (with_reducible refine (spec_sooner.calls _ _ x6_1 (rd x5_2 x8_2) (rd x5_2 (ji15)) true _ ?side1 ?side2 A18.out).mono ?_); (case side1 => repeat (first | exact (Kd.R_reads' HO_6.out).2.2 | (with_reducible first | refine Ca_ ?_ _ | refine Cn_ ?_ _ | refine Cd_ ?_))); (case side2 => exact (Kd.R_reads' HO_6.out).2.1); rintro e w' ⟨rfl, ⟨nd, rfl⟩⟩; (try first | exact ⟨rfl, _, World.drewN_drewN _ _ _⟩ | exact ⟨rfl, _, Eq.trans (World.drewN_drewN _ _ _) (congrArg (World.drewN _) (Nat.add_assoc _ _ _))⟩); have p293 : 0 ≤ (x8_2 : Int) := od_ (by with_reducible assumption); have q293 : x8_2 < (x5_2.length : Int) := od_ (by with_reducible assumption); obtain ⟨ad293, e293, hx293_0⟩ := Kd.at_int (Kd.R_reads' HO_5.out).2.2 x8_2 p293 q293; obtain rfl : ad290 = ad293 := (by injection e293); replace p293 := eq_true p293; replace q293 := eq_true q293; have p294 : 0 ≤ ((ji15) : Int) := od_ (by with_reducible assumption); have q294 : (ji15) < (x5_2.length : Int) := od_ (by with_reducible assumption); obtain ⟨ad294, e294, hx294_0⟩ := Kd.at_int (Kd.R_reads' HO_5.out).2.2 (ji15) p294 q294; obtain rfl : ad290 = ad294 := (by injection e294); replace p294 := eq_true p294; replace q294 := eq_true q294; have p20 : 0 ≤ (x8_2 : Int) := od_ (by with_reducible assumption); have q20 : (x8_2 : Int) < ((x5_2.length : Int) : Int) := od_ (by with_reducible assumption); obtain ⟨go20, co20, eo20, gb20, gl20, cl20, HG20⟩ := Kd.R_form HO_5.out (by omega); (first | cases eo20 | (injection eo20 with ea_ en_ ec_; (first | subst ea_ | (injection ea_ with ea_; subst ea_)); subst ec_; clear en_)); have GB20 := mk0 gb20; have GG20 := mk0 HG20; clear gb20 gl20 HG20; (first | simp only [add_plain] at hx290_0 | skip); (first | simp only [add_plain] at hx291_0 | skip); (first | simp only [add_plain] at hx293_0 | skip); (first | simp only [add_plain] at hx294_0 | skip); obtain ⟨hx20_0, hf20_0⟩ := Kd.R_celln 0 HO_5.out (x8_2 : Int) p20 q20; replace p20 := eq_true p20; replace q20 := eq_true q20; obtain ⟨hy23_, hz23_⟩ := Kd.R_celln 0 HO_5.out (x8_2 : Int) (od_ (by with_reducible assumption)) (od_ (by with_reducible assumption)); have HP23 := Kd.R_putg HO_5.out (x8_2 : Int) (rd x5_2 (ji15))) | ((with_reducible refine gate_store (t := 3) (p := 57) rfl ?_); (try (rw [drewN_self wr]; generalize hq_ : World.drewN wr _ = wr; replace HO_5 := mk0 (Kd.R_at hq_ HO_5.out); replace HO_6 := mk0 (Kd.R_at hq_ HO_6.out); replace HB := mk0 (below_at hq_ HB.out); clear hq_; (try (obtain ⟨hy23_, hz23_⟩ := Kd.R_celln 0 HO_5.out (x8_2 : Int) (od_ (by with_reducible assumption)) (od_ (by with_reducible assumption)))); (try (have HP23 := Kd.R_putg HO_5.out (x8_2 : Int) (rd x5_2 (ji15)))))); refine store_event (t := 3) (p := 57) (v := ?vo_w24) (w1 := (wr.setCell ⟨go20, (x8_2 : Int).toNat, none⟩ (.int .i64 (rd x5_2 (ji15))))) ?hg ?ho ?hn ?hr ?_; (case ho => rfl); (case hg => rfl); (case hn => rfl); (case hr => first | (go_simp; done) | (go_simp; rfl)); intro w24 hw; have hg : wr.grownBy w24 (some go20) := (by rw [hw]; exact HP23.2); have hp_ : Kd.R (Kd.int .i64) 3 w24 w.heap.size (fun k_ => some k_ ≠ (.slice Ao22 x6_1.length co22 : Value).ownBlock) (.slice (some ⟨go20, 0, none⟩) x5_2.length co11) y295 := (by rw [hw, Ny295.out]; exact HP23.1); clear HP23; replace HO_5 := mk0 (hp_); replace HO_6 := mk0 (Kd.R_after (v := (.slice (some ⟨go20, 0, none⟩) x5_2.length co11)) (v1 := (.slice (some ⟨go20, 0, none⟩) x5_2.length co11)) (ok := (fun _ => True)) (by (with_reducible repeat (first | apply Ra_ | apply Rn_ | apply Rd_)); exact Kd.R_mono HO_6.out (fun _ hk => ⟨trivial, hk⟩)) hg (.inl rfl)); replace HB := mk0 ((by rw [hw]; exact below_set (HB.out) GB20.out : Below w.heap.size w w24)); clear hg hw hp_; have p21 : 0 ≤ ((ji15) : Int) := od_ (by with_reducible assumption); have q21 : ((ji15) : Int) < ((x5_2.length : Int) : Int) := od_ (by with_reducible assumption); obtain ⟨hx21_0, hf21_0⟩ := Kd.R_celln 0 HO_5.out ((ji15) : Int) p21 q21; replace p21 := eq_true p21; replace q21 := eq_true q21; obtain ⟨hy25_, hz25_⟩ := Kd.R_celln 0 HO_5.out ((ji15) : Int) (od_ (by with_reducible assumption)) (od_ (by with_reducible assumption)); have HP25 := Kd.R_putg HO_5.out ((ji15) : Int) (rd x5_2 x8_2)) | ((with_reducible refine gate_store (t := 3) (p := 62) rfl ?_); (try (rw [drewN_self w24]; generalize hq_ : World.drewN w24 _ = w24; replace HO_5 := mk0 (Kd.R_at hq_ HO_5.out); replace HO_6 := mk0 (Kd.R_at hq_ HO_6.out); replace HB := mk0 (below_at hq_ HB.out); clear hq_; (try (obtain ⟨hy25_, hz25_⟩ := Kd.R_celln 0 HO_5.out ((ji15) : Int) (od_ (by with_reducible assumption)) (od_ (by with_reducible assumption)))); (try (have HP25 := Kd.R_putg HO_5.out ((ji15) : Int) (rd x5_2 x8_2))))); refine store_event (t := 3) (p := 62) (v := ?vo_w26) (w1 := (w24.setCell ⟨go20, ((ji15) : Int).toNat, none⟩ (.int .i64 (rd x5_2 x8_2)))) ?hg ?ho ?hn ?hr ?_; (case ho => rfl); (case hg => rfl); (case hn => rfl); (case hr => first | (go_simp; done) | (go_simp; rfl)); intro w26 hw; have hg : w24.grownBy w26 (some go20) := (by rw [hw]; exact HP25.2); have hp_ : Kd.R (Kd.int .i64) 3 w26 w.heap.size (fun k_ => some k_ ≠ (.slice Ao22 x6_1.length co22 : Value).ownBlock) (.slice (some ⟨go20, 0, none⟩) x5_2.length co11) y296 := (by rw [hw, Ny296.out]; exact HP25.1); clear HP25; replace HO_5 := mk0 (hp_); replace HO_6 := mk0 (Kd.R_after (v := (.slice (some ⟨go20, 0, none⟩) x5_2.length co11)) (v1 := (.slice (some ⟨go20, 0, none⟩) x5_2.length co11)) (ok := (fun _ => True)) (by (with_reducible repeat (first | apply Ra_ | apply Rn_ | apply Rd_)); exact HO_6.out) hg (.inl rfl)); replace HB := mk0 ((by rw [hw]; exact below_set (HB.out) GB20.out : Below w.heap.size w w26)); clear hg hw hp_)); try go_wp2_with (first | (go_at_call 67; (with_reducible refine (spec_sooner.calls _ _ x6_1 (rd x5_2 x8_2) (rd x5_2 (ji15)) true _ ?side1 ?side2 A18.out).mono ?_); (case side1 => repeat (first | exact (Kd.R_reads' HO_6.out).2.2 | (with_reducible first | refine Ca_ ?_ _ | refine Cn_ ?_ _ | refine Cd_ ?_))); (case side2 => exact (Kd.R_reads' HO_6.out).2.1); rintro e w' ⟨rfl, ⟨nd, rfl⟩⟩; (try first | exact ⟨rfl, _, World.drewN_drewN _ _ _⟩ | exact ⟨rfl, _, Eq.trans (World.drewN_drewN _ _ _) (congrArg (World.drewN _) (Nat.add_assoc _ _ _))⟩); have p293 : 0 ≤ (x8_2 : Int) := od_ (by with_reducible assumption); have q293 : x8_2 < (x5_2.length : Int) := od_ (by with_reducible assumption); obtain ⟨ad293, e293, hx293_0⟩ := Kd.at_int (Kd.R_reads' HO_5.out).2.2 x8_2 p293 q293; obtain rfl : ad290 = ad293 := (by injection e293); replace p293 := eq_true p293; replace q293 := eq_true q293; have p294 : 0 ≤ ((ji15) : Int) := od_ (by with_reducible assumption); have q294 : (ji15) < (x5_2.length : Int) := od_ (by with_reducible assumption); obtain ⟨ad294, e294, hx294_0⟩ := Kd.at_int (Kd.R_reads' HO_5.out).2.2 (ji15) p294 q294; obtain rfl : ad290 = ad294 := (by injection e294); replace p294 := eq_true p294; replace q294 := eq_true q294; have p20 : 0 ≤ (x8_2 : Int) := od_ (by with_reducible assumption); have q20 : (x8_2 : Int) < ((x5_2.length : Int) : Int) := od_ (by with_reducible assumption); obtain ⟨go20, co20, eo20, gb20, gl20, cl20, HG20⟩ := Kd.R_form HO_5.out (by omega); (first | cases eo20 | (injection eo20 with ea_ en_ ec_; (first | subst ea_ | (injection ea_ with ea_; subst ea_)); subst ec_; clear en_)); have GB20 := mk0 gb20; have GG20 := mk0 HG20; clear gb20 gl20 HG20; (first | simp only [add_plain] at hx290_0 | skip); (first | simp only [add_plain] at hx291_0 | skip); (first | simp only [add_plain] at hx293_0 | skip); (first | simp only [add_plain] at hx294_0 | skip); obtain ⟨hx20_0, hf20_0⟩ := Kd.R_celln 0 HO_5.out (x8_2 : Int) p20 q20; replace p20 := eq_true p20; replace q20 := eq_true q20; obtain ⟨hy23_, hz23_⟩ := Kd.R_celln 0 HO_5.out (x8_2 : Int) (od_ (by with_reducible assumption)) (od_ (by with_reducible assumption)); have HP23 := Kd.R_putg HO_5.out (x8_2 : Int) (rd x5_2 (ji15))) | ((with_reducible refine gate_store (t := 3) (p := 57) rfl ?_); (try (rw [drewN_self wr]; generalize hq_ : World.drewN wr _ = wr; replace HO_5 := mk0 (Kd.R_at hq_ HO_5.out); replace HO_6 := mk0 (Kd.R_at hq_ HO_6.out); replace HB := mk0 (below_at hq_ HB.out); clear hq_; (try (obtain ⟨hy23_, hz23_⟩ := Kd.R_celln 0 HO_5.out (x8_2 : Int) (od_ (by with_reducible assumption)) (od_ (by with_reducible assumption)))); (try (have HP23 := Kd.R_putg HO_5.out (x8_2 : Int) (rd x5_2 (ji15)))))); refine store_event (t := 3) (p := 57) (v := ?vo_w24) (w1 := (wr.setCell ⟨go20, (x8_2 : Int).toNat, none⟩ (.int .i64 (rd x5_2 (ji15))))) ?hg ?ho ?hn ?hr ?_; (case ho => rfl); (case hg => rfl); (case hn => rfl); (case hr => first | (go_simp; done) | (go_simp; rfl)); intro w24 hw; have hg : wr.grownBy w24 (some go20) := (by rw [hw]; exact HP23.2); have hp_ : Kd.R (Kd.int .i64) 3 w24 w.heap.size (fun k_ => some k_ ≠ (.slice Ao22 x6_1.length co22 : Value).ownBlock) (.slice (some ⟨go20, 0, none⟩) x5_2.length co11) y295 := (by rw [hw, Ny295.out]; exact HP23.1); clear HP23; replace HO_5 := mk0 (hp_); replace HO_6 := mk0 (Kd.R_after (v := (.slice (some ⟨go20, 0, none⟩) x5_2.length co11)) (v1 := (.slice (some ⟨go20, 0, none⟩) x5_2.length co11)) (ok := (fun _ => True)) (by (with_reducible repeat (first | apply Ra_ | apply Rn_ | apply Rd_)); exact Kd.R_mono HO_6.out (fun _ hk => ⟨trivial, hk⟩)) hg (.inl rfl)); replace HB := mk0 ((by rw [hw]; exact below_set (HB.out) GB20.out : Below w.heap.size w w24)); clear hg hw hp_; have p21 : 0 ≤ ((ji15) : Int) := od_ (by with_reducible assumption); have q21 : ((ji15) : Int) < ((x5_2.length : Int) : Int) := od_ (by with_reducible assumption); obtain ⟨hx21_0, hf21_0⟩ := Kd.R_celln 0 HO_5.out ((ji15) : Int) p21 q21; replace p21 := eq_true p21; replace q21 := eq_true q21; obtain ⟨hy25_, hz25_⟩ := Kd.R_celln 0 HO_5.out ((ji15) : Int) (od_ (by with_reducible assumption)) (od_ (by with_reducible assumption)); have HP25 := Kd.R_putg HO_5.out ((ji15) : Int) (rd x5_2 x8_2)) | ((with_reducible refine gate_store (t := 3) (p := 62) rfl ?_); (try (rw [drewN_self w24]; generalize hq_ : World.drewN w24 _ = w24; replace HO_5 := mk0 (Kd.R_at hq_ HO_5.out); replace HO_6 := mk0 (Kd.R_at hq_ HO_6.out); replace HB := mk0 (below_at hq_ HB.out); clear hq_; (try (obtain ⟨hy25_, hz25_⟩ := Kd.R_celln 0 HO_5.out ((ji15) : Int) (od_ (by with_reducible assumption)) (od_ (by with_reducible assumption)))); (try (have HP25 := Kd.R_putg HO_5.out ((ji15) : Int) (rd x5_2 x8_2))))); refine store_event (t := 3) (p := 62) (v := ?vo_w26) (w1 := (w24.setCell ⟨go20, ((ji15) : Int).toNat, none⟩ (.int .i64 (rd x5_2 x8_2)))) ?hg ?ho ?hn ?hr ?_; (case ho => rfl); (case hg => rfl); (case hn => rfl); (case hr => first | (go_simp; done) | (go_simp; rfl)); intro w26 hw; have hg : w24.grownBy w26 (some go20) := (by rw [hw]; exact HP25.2); have hp_ : Kd.R (Kd.int .i64) 3 w26 w.heap.size (fun k_ => some k_ ≠ (.slice Ao22 x6_1.length co22 : Value).ownBlock) (.slice (some ⟨go20, 0, none⟩) x5_2.length co11) y296 := (by rw [hw, Ny296.out]; exact HP25.1); clear HP25; replace HO_5 := mk0 (hp_); replace HO_6 := mk0 (Kd.R_after (v := (.slice (some ⟨go20, 0, none⟩) x5_2.length co11)) (v1 := (.slice (some ⟨go20, 0, none⟩) x5_2.length co11)) (ok := (fun _ => True)) (by (with_reducible repeat (first | apply Ra_ | apply Rn_ | apply Rd_)); exact HO_6.out) hg (.inl rfl)); replace HB := mk0 ((by rw [hw]; exact below_set (HB.out) GB20.out : Below w.heap.size w w26)); clear hg hw hp_)))
              (try simp only [← hl5_2])
              go_roundg k2
              case measure => have := HK1.out; have := HK2.out; omega
              case rel => exact ⟨(y296), (ji15), (by first | rfl | (simp; done) | (simp only [← hji15] <;> (first | rfl | simp)) | (simp [*]; done)), H', ⟨by have := HK1.out; have := HK2.out; omega⟩, ⟨by (try simp only [hl5_2]); (with_reducible repeat (first | apply Ra_ | apply Rn_ | apply Rd_)); exact HO_5.out⟩, ⟨by (try simp only [hl5_2]); (with_reducible repeat (first | apply Ra_ | apply Rn_ | apply Rd_)); exact Kd.R_mono HO_6.out (fun _ hk => hk.2)⟩, ⟨by with_reducible repeat (first | exact HB.out | apply ba_ | apply bn_ | apply bd_)⟩⟩
             ·
              replace c19 := Bool.eq_false_iff.mpr c19
              subst c19
              rw [if_neg (show ¬ (false = true) by decide)] at H
              have H' := mk0 H
              clear H
              have p290 : 0 ≤ (x8_2 : Int) := od_ (by with_reducible assumption)
              have q290 : x8_2 < (x5_2.length : Int) := od_ (by with_reducible assumption)
              obtain ⟨ad290, e290, hx290_0⟩ := Kd.at_int (Kd.R_reads' HO_5.out).2.2 x8_2 p290 q290
              cases e290
              replace p290 := eq_true p290
              replace q290 := eq_true q290
              have p291 : 0 ≤ ((ji15) : Int) := od_ (by with_reducible assumption)
              have q291 : (ji15) < (x5_2.length : Int) := od_ (by with_reducible assumption)
              obtain ⟨ad291, e291, hx291_0⟩ := Kd.at_int (Kd.R_reads' HO_5.out).2.2 (ji15) p291 q291
              obtain rfl : ad290 = ad291 := (by injection e291)
              replace p291 := eq_true p291
              replace q291 := eq_true q291
              obtain ⟨Ao27, co27, eo27⟩ := Kd.R_slice HO_6.out
              subst eo27
              go_wp2_with (first | (go_at_call 67; (with_reducible refine (spec_sooner.calls _ _ x6_1 (rd x5_2 x8_2) (rd x5_2 (ji15)) false _ ?side1 ?side2 A18.out).mono ?_); (case side1 => repeat (first | exact (Kd.R_reads' HO_6.out).2.2 | (with_reducible first | refine Ca_ ?_ _ | refine Cn_ ?_ _ | refine Cd_ ?_))); (case side2 => exact (Kd.R_reads' HO_6.out).2.1); rintro e w' ⟨rfl, ⟨nd, rfl⟩⟩; (try first | exact ⟨rfl, _, World.drewN_drewN _ _ _⟩ | exact ⟨rfl, _, Eq.trans (World.drewN_drewN _ _ _) (congrArg (World.drewN _) (Nat.add_assoc _ _ _))⟩)))
              repeat (go_quiet (first | (go_at_call 67; (with_reducible refine (spec_sooner.calls _ _ x6_1 (rd x5_2 x8_2) (rd x5_2 (ji15)) false _ ?side1 ?side2 A18.out).mono ?_); (case side1 => repeat (first | exact (Kd.R_reads' HO_6.out).2.2 | (with_reducible first | refine Ca_ ?_ _ | refine Cn_ ?_ _ | refine Cd_ ?_))); (case side2 => exact (Kd.R_reads' HO_6.out).2.1); rintro e w' ⟨rfl, ⟨nd, rfl⟩⟩; (try first | exact ⟨rfl, _, World.drewN_drewN _ _ _⟩ | exact ⟨rfl, _, Eq.trans (World.drewN_drewN _ _ _) (congrArg (World.drewN _) (Nat.add_assoc _ _ _))⟩))); try go_wp2_with (first | (go_at_call 67; (with_reducible refine (spec_sooner.calls _ _ x6_1 (rd x5_2 x8_2) (rd x5_2 (ji15)) false _ ?side1 ?side2 A18.out).mono ?_); (case side1 => repeat (first | exact (Kd.R_reads' HO_6.out).2.2 | (with_reducible first | refine Ca_ ?_ _ | refine Cn_ ?_ _ | refine Cd_ ?_))); (case side2 => exact (Kd.R_reads' HO_6.out).2.1); rintro e w' ⟨rfl, ⟨nd, rfl⟩⟩; (try first | exact ⟨rfl, _, World.drewN_drewN _ _ _⟩ | exact ⟨rfl, _, Eq.trans (World.drewN_drewN _ _ _) (congrArg (World.drewN _) (Nat.add_assoc _ _ _))⟩))))
              (try simp only [← hl5_2])
              go_roundg k2
              case measure => have := HK1.out; have := HK2.out; omega
              case rel => exact ⟨(x5_2), (x6_1), (wrap64 (x7_1 + 1)), (by first | rfl | (simp; done) | (simp [*]; done)), H', ⟨by have := HK1.out; have := HK2.out; omega⟩, ⟨by (try simp only [hl5_2]); (with_reducible repeat (first | apply Ra_ | apply Rn_ | apply Rd_)); exact HO_5.out⟩, ⟨by (try simp only [hl5_2]); (with_reducible repeat (first | apply Ra_ | apply Rn_ | apply Rd_)); exact HO_6.out⟩, ⟨by with_reducible repeat (first | exact HB.out | apply ba_ | apply bn_ | apply bd_)⟩⟩
            ·
             rw [if_neg c17] at H
             exact nn_ H
           ·
            rw [if_neg c16] at H
            exact nn_ H
          ·
           rw [if_neg c14] at H
           exact nn_ H
         ·
          rw [if_neg c13] at H
          exact nn_ H
        ·
         rw [if_neg c12] at H
         have c12b0 : decide (0 < x8_2) = false := decide_eq_false c12
         clear c12
         have H' := mk0 H
         clear H
         go_wp2
         repeat (go_quiet (fail); try go_wp2)
         (try simp only [← hl5_2])
         go_roundg k2
         case measure => have := HK1.out; have := HK2.out; omega
         case rel => exact ⟨(x5_2), (x6_1), (wrap64 (x7_1 + 1)), (by first | rfl | (simp; done) | (simp [*]; done)), H', ⟨by have := HK1.out; have := HK2.out; omega⟩, ⟨by (try simp only [hl5_2]); (with_reducible repeat (first | apply Ra_ | apply Rn_ | apply Rd_)); exact HO_5.out⟩, ⟨by (try simp only [hl5_2]); (with_reducible repeat (first | apply Ra_ | apply Rn_ | apply Rd_)); exact HO_6.out⟩, ⟨by with_reducible repeat (first | exact HB.out | apply ba_ | apply bn_ | apply bd_)⟩⟩
     ·
      rw [if_neg c9] at H
      exact nn_ H
    ·
     rw [if_neg c8] at H
     exact nn_ H
   ·
    rw [if_neg c7] at H
    have c7b0 : decide (x7_1 < (l1.length : Int)) = false := decide_eq_false c7
    clear c7
    obtain rfl := Option.some.inj H
    go_wp2
    repeat (go_quiet (fail); try go_wp2)
    go_ret
    exact ⟨_, by first | rfl | (simp [errW_none, errW_some] <;> rfl) | (simp [*, errW_none, errW_some] <;> rfl), by (with_reducible repeat (first | apply Ra_ | apply Rn_ | apply Rd_)); exact Kd.R_mono HO_5.out (fun _ hk => trivial), by with_reducible repeat (first | exact HB.out | apply ba_ | apply bn_ | apply bd_)⟩
/-! spec_ready -/
def spec_ready.l0 : Nat → List (S41) → List Int → List Int → Int → Option (List Int)
 | 0, _, _, _, _ => none
 | k + 1, x0, x1, x5, x6 => if x6 < (x0.length : Int) then ((spec_isIn.f k x1 x6).bind fun t300 => (if t300 = true then (spec_ready.l0 k x0 x1 x5 (wrap64 (x6 + 1))) else (if 0 ≤ x6 then ((spec_allDone.f k ((rd_T41 x0 x6).f1) x1).bind fun t302 => (if t302 = true then (if x5.length < 17592186044416 then (spec_ready.l0 k x0 x1 (x5 ++ [x6]) (wrap64 (x6 + 1))) else (none)) else (spec_ready.l0 k x0 x1 x5 (wrap64 (x6 + 1))))) else (none)))) else (some x5)
def spec_ready.f (k : Nat) (l0 : List (S41)) (l1 : List Int) : Option (List Int) := spec_ready.l0 k l0 l1 (([] : List Int)) 0
set_option maxHeartbeats 8000000 in
set_option maxRecDepth 100000 in
theorem spec_ready.calls (k : Nat) (A0 : Option Addr) (c0 : Nat) (l0 : List (S41)) (A1 : Option Addr) (c1 : Nat) (l1 : List Int) (r : List Int) (w : World) (hr0 : Kd.C k41 w A0 l0.length l0) (hc0 : l0.length ≤ c0) (hr1 : Kd.C (Kd.int .i64) w A1 l1.length l1) (hc1 : l1.length ≤ c1) (h : spec_ready.f k l0 l1 = some r) :
  Calls Tryd.prog 38 #[.slice A0 l0.length c0, .slice A1 l1.length c1] w fun e w' => ∃ v0_ : Value, e = .returned (v0_) ∧ Kd.R (Kd.int .i64) 3 w' w.heap.size (fun _ => True) v0_ r ∧ Below w.heap.size w w' := by
 have HR0 := mk0 hr0
 have HC0 := mk0 hc0
 clear hr0 hc0
 have HR1 := mk0 hr1
 have HC1 := mk0 hc1
 clear hr1 hc1
 have HB := mk0 (Below.refl w.heap.size w)
 have H : (spec_ready.l0 k l0 l1 (([] : List Int)) 0) = some r := h
 clear h
 obtain ⟨y297, hy297⟩ : ∃ y_ : List Int, y_ = (([] : List Int)) := ⟨_, rfl⟩
 replace H : (spec_ready.l0 k l0 l1 y297 0) = some r := by first | (rw [hy297]; with_reducible exact H) | (rw [hy297]; exact (Option.bind_some _ _).symm.trans H) | (rw [hy297]; exact H) | exact H
 have Ny297 := mk0 hy297
 clear hy297
 have H' := mk0 H
 clear H
 go_enter Tryd.func38, Tryd.ntmps38
 go_wp2_with (first | ((with_reducible refine gate_dst (N := 7) rfl ?_); refine Kd.R_lit (Kd.int .i64) _ 3 ?hg (N := 7) ?hd (xs := ([] : List Int)) (inner := []) (ok := fun _ => True) (okp := fun _ => True) ?hr ?hp (fun _ hk => hk) trivial (Below.refl _ _) (Nat.le_refl _) (by simp) ?_; (case hd => rfl); (case hg => rfl); (case hr => first | (go_simp; done) | (go_simp; rfl)); (case hp => exact (Reps.none _ _)); intro v298 w3 ho4 hb hg_ hnew_; clear hg_ hnew_; (first | rw [← Ny297.out] at ho4 | (simp only [Int.reduceToNat] at ho4; rw [← Ny297.out] at ho4)); have HO299 := mk0 (Kd.R_lower ho4 (below_size (by with_reducible repeat (first | exact HB.out | apply ba_ | apply bn_ | apply bd_)))); replace HB := mk0 (below_step (by with_reducible repeat (first | exact HB.out | apply ba_ | apply bn_ | apply bd_)) hb); clear hb ho4))
 go_loopg [5, 6] k (fun kq v5 v6 w' => ∃ (x5_1 : List Int) (x6_1 : Int), v6 = .int .i64 x6_1 ∧ Aside0 (spec_ready.l0 kq l0 l1 x5_1 x6_1 = some r) ∧ Aside0 (kq ≤ k) ∧ Aside0 (Kd.R (Kd.int .i64) 3 w' w.heap.size (fun _ => True) v5 x5_1) ∧ Aside0 (Below w.heap.size w w'))
 case atStart => exact ⟨(y297), (0), (by first | rfl | (simp; done) | (simp [*]; done)), H', ⟨Nat.le_refl _⟩, ⟨by (with_reducible repeat (first | apply Ra_ | apply Rn_ | apply Rd_)); exact HO299.out⟩, ⟨by with_reducible repeat (first | exact HB.out | apply ba_ | apply bn_ | apply bd_)⟩⟩
 case round =>
  clear H'
  try clear c1
  try clear p2
  try clear c3
  obtain ⟨x5_1, x6_1, rfl, HA, HK1, HO_5, HB⟩ := hrel
  cases gk with
  | zero => exact absurd HA.out (by simp [spec_ready.l0])
  | succ k1 =>
   have H := HA.out
   clear HA
   simp only [spec_ready.l0] at H
   by_cases c5 : x6_1 < (l0.length : Int)
   ·
    rw [if_pos c5] at H
    have c5b0 : decide (x6_1 < (l0.length : Int)) = true := decide_eq_true c5
    clear c5
    replace H := bE_ H
    obtain ⟨t300, A60, H⟩ := H
    have A6 := mk0 A60
    clear A60
    by_cases c7 : t300 = true
    ·
     subst c7
     rw [if_pos rfl] at H
     have H' := mk0 H
     clear H
     go_wp2_with (first | ((with_reducible refine gate_callee (f := 68) rfl ?_); refine goesL_ (some 16) rfl rfl Tryd.func68 (by kernel_rfl) rfl #[.slice A1 l1.length c1, .int .i64 x6_1] rfl (by (try simp only [List.map_toArray, List.map_cons, List.map_nil]); first | done | rfl | (simp only [List.length_drop, List.length_take]; rfl)) ?_; (with_reducible refine (spec_isIn.calls k1 _ _ l1 x6_1 true _ ?side1 ?side2 A6.out).mono ?_); (case side1 => repeat (first | exact (Kd.C_below HR1.out HB.out) | (with_reducible first | refine Ca_ ?_ _ | refine Cn_ ?_ _ | refine Cd_ ?_))); (case side2 => exact HC1.out); rintro e w' ⟨rfl, ⟨nd, rfl⟩⟩; refine ⟨_, rfl, ?_⟩))
     go_roundg k1
     case measure => have := HK1.out; omega
     case rel => exact ⟨(x5_1), (wrap64 (x6_1 + 1)), (by first | rfl | (simp; done) | (simp [*]; done)), H', ⟨by have := HK1.out; omega⟩, ⟨by (with_reducible repeat (first | apply Ra_ | apply Rn_ | apply Rd_)); exact HO_5.out⟩, ⟨by with_reducible repeat (first | exact HB.out | apply ba_ | apply bn_ | apply bd_)⟩⟩
    ·
     replace c7 := Bool.eq_false_iff.mpr c7
     subst c7
     rw [if_neg (show ¬ (false = true) by decide)] at H
     by_cases c8 : 0 ≤ x6_1
     ·
      rw [if_pos c8] at H
      have c8b0 : decide (0 ≤ x6_1) = true := decide_eq_true c8
      clear c8
      replace H := bE_ H
      obtain ⟨t302, A90, H⟩ := H
      have A9 := mk0 A90
      clear A90
      by_cases c10 : t302 = true
      ·
       subst c10
       rw [if_pos rfl] at H
       by_cases c11 : x5_1.length < 17592186044416
       ·
        rw [if_pos c11] at H
        have LMc11 := mk0 c11
        clear c11
        obtain ⟨y303, hy303⟩ : ∃ y_ : List Int, y_ = (x5_1 ++ [x6_1]) := ⟨_, rfl⟩
        replace H : (spec_ready.l0 k1 l0 l1 y303 (wrap64 (x6_1 + 1))) = some r := by first | (rw [hy303]; with_reducible exact H) | (rw [hy303]; exact (Option.bind_some _ _).symm.trans H) | (rw [hy303]; exact H) | exact H
        have Ny303 := mk0 hy303
        clear hy303
        have H' := mk0 H
        clear H
        go_wp2_with (first | ((with_reducible refine gate_callee (f := 68) rfl ?_); refine goesL_ (some 16) rfl rfl Tryd.func68 (by kernel_rfl) rfl #[.slice A1 l1.length c1, .int .i64 x6_1] rfl (by (try simp only [List.map_toArray, List.map_cons, List.map_nil]); first | done | rfl | (simp only [List.length_drop, List.length_take]; rfl)) ?_; (with_reducible refine (spec_isIn.calls k1 _ _ l1 x6_1 false _ ?side1 ?side2 A6.out).mono ?_); (case side1 => repeat (first | exact (Kd.C_below HR1.out HB.out) | (with_reducible first | refine Ca_ ?_ _ | refine Cn_ ?_ _ | refine Cd_ ?_))); (case side2 => exact HC1.out); rintro e w' ⟨rfl, ⟨nd, rfl⟩⟩; refine ⟨_, rfl, ?_⟩; have p301 : 0 ≤ (x6_1 : Int) := od_ (by with_reducible assumption); have q301 : x6_1 < (l0.length : Int) := od_ (by with_reducible assumption); obtain ⟨ad301, A301_1, c301_1, e301, hx301_0, hx301_1, hx301_2, hx301_3, hl301_1, hi301_1⟩ := at_T41 HR0.out x6_1 p301 q301; cases e301; replace hx301_0 := (HB.out.cell (World.block_lt_of_cell? w _ hx301_0)).trans hx301_0; replace hx301_1 := (HB.out.cell (World.block_lt_of_cell? w _ hx301_1)).trans hx301_1; replace hx301_2 := (HB.out.cell (World.block_lt_of_cell? w _ hx301_2)).trans hx301_2; replace hx301_3 := (HB.out.cell (World.block_lt_of_cell? w _ hx301_3)).trans hx301_3; have HR301_1 := mk0 hi301_1; have HC301_1 := mk0 hl301_1; clear hi301_1 hl301_1; replace p301 := eq_true p301; replace q301 := eq_true q301) | (go_at_call 65; (with_reducible refine (spec_allDone.calls k1 _ _ ((rd_T41 l0 x6_1).f1) _ _ l1 true _ ?side1 ?side2 ?side3 ?side4 A9.out).mono ?_); (case side1 => repeat (first | exact (Kd.C_below HR301_1.out (by with_reducible repeat (first | exact HB.out | apply ba_ | apply bn_ | apply bd_))) | (with_reducible first | refine Ca_ ?_ _ | refine Cn_ ?_ _ | refine Cd_ ?_))); (case side2 => exact HC301_1.out); (case side3 => repeat (first | exact (Kd.C_below HR1.out (by with_reducible repeat (first | exact HB.out | apply ba_ | apply bn_ | apply bd_))) | (with_reducible first | refine Ca_ ?_ _ | refine Cn_ ?_ _ | refine Cd_ ?_))); (case side4 => exact HC1.out); rintro e w' ⟨rfl, ⟨nd, rfl⟩⟩) | ((with_reducible refine gate_builtin (b := .append) (xs := #[.tmp 27, .tmp 29]) rfl ?_); at_builtin; refine Kd.R_append (Kd.int .i64) (w0 := w) w.heap.size rfl (.tmp 27) (.tmp 29) 31 3 (.int .i64 0) 8 rfl Tryd.underlying31 info3 rfl (by decide) (by omega) u5 x5_1 x6_1 [.int .i64 x6_1] (fun _ => True) (fun _ => False) rfl rfl ?aP (fun _ hk => hk.elim) ?aF ?aO ?aB ?aS ?aL ?_; (case aP => exact rfl); (case aB => exact (by with_reducible repeat (first | exact HB.out | apply ba_ | apply bn_ | apply bd_))); (case aF => exact (fun _ _ => trivial)); (case aO => exact (by (with_reducible repeat (first | apply Ra_ | apply Rn_ | apply Rd_)); exact HO_5.out)); (case aS => exact (below_size (by with_reducible repeat (first | exact HB.out | apply ba_ | apply bn_ | apply bd_)))); (case aL => have := LMc11.out; omega); intro v304 w12 ho hb hg hat; rw [← Ny303.out] at ho; replace HB := mk0 (hb); have HO305 := mk0 (ho); clear HO_5; clear ho hb hg hat))
        go_roundg k1
        case measure => have := HK1.out; omega
        case rel => exact ⟨(y303), (wrap64 (x6_1 + 1)), (by first | rfl | (simp; done) | (simp [*]; done)), H', ⟨by have := HK1.out; omega⟩, ⟨by (with_reducible repeat (first | apply Ra_ | apply Rn_ | apply Rd_)); exact HO305.out⟩, ⟨by with_reducible repeat (first | exact HB.out | apply ba_ | apply bn_ | apply bd_)⟩⟩
       ·
        rw [if_neg c11] at H
        exact nn_ H
      ·
       replace c10 := Bool.eq_false_iff.mpr c10
       subst c10
       rw [if_neg (show ¬ (false = true) by decide)] at H
       have H' := mk0 H
       clear H
       go_wp2_with (first | ((with_reducible refine gate_callee (f := 68) rfl ?_); refine goesL_ (some 16) rfl rfl Tryd.func68 (by kernel_rfl) rfl #[.slice A1 l1.length c1, .int .i64 x6_1] rfl (by (try simp only [List.map_toArray, List.map_cons, List.map_nil]); first | done | rfl | (simp only [List.length_drop, List.length_take]; rfl)) ?_; (with_reducible refine (spec_isIn.calls k1 _ _ l1 x6_1 false _ ?side1 ?side2 A6.out).mono ?_); (case side1 => repeat (first | exact (Kd.C_below HR1.out HB.out) | (with_reducible first | refine Ca_ ?_ _ | refine Cn_ ?_ _ | refine Cd_ ?_))); (case side2 => exact HC1.out); rintro e w' ⟨rfl, ⟨nd, rfl⟩⟩; refine ⟨_, rfl, ?_⟩; have p301 : 0 ≤ (x6_1 : Int) := od_ (by with_reducible assumption); have q301 : x6_1 < (l0.length : Int) := od_ (by with_reducible assumption); obtain ⟨ad301, A301_1, c301_1, e301, hx301_0, hx301_1, hx301_2, hx301_3, hl301_1, hi301_1⟩ := at_T41 HR0.out x6_1 p301 q301; cases e301; replace hx301_0 := (HB.out.cell (World.block_lt_of_cell? w _ hx301_0)).trans hx301_0; replace hx301_1 := (HB.out.cell (World.block_lt_of_cell? w _ hx301_1)).trans hx301_1; replace hx301_2 := (HB.out.cell (World.block_lt_of_cell? w _ hx301_2)).trans hx301_2; replace hx301_3 := (HB.out.cell (World.block_lt_of_cell? w _ hx301_3)).trans hx301_3; have HR301_1 := mk0 hi301_1; have HC301_1 := mk0 hl301_1; clear hi301_1 hl301_1; replace p301 := eq_true p301; replace q301 := eq_true q301) | (go_at_call 65; (with_reducible refine (spec_allDone.calls k1 _ _ ((rd_T41 l0 x6_1).f1) _ _ l1 false _ ?side1 ?side2 ?side3 ?side4 A9.out).mono ?_); (case side1 => repeat (first | exact (Kd.C_below HR301_1.out (by with_reducible repeat (first | exact HB.out | apply ba_ | apply bn_ | apply bd_))) | (with_reducible first | refine Ca_ ?_ _ | refine Cn_ ?_ _ | refine Cd_ ?_))); (case side2 => exact HC301_1.out); (case side3 => repeat (first | exact (Kd.C_below HR1.out (by with_reducible repeat (first | exact HB.out | apply ba_ | apply bn_ | apply bd_))) | (with_reducible first | refine Ca_ ?_ _ | refine Cn_ ?_ _ | refine Cd_ ?_))); (case side4 => exact HC1.out); rintro e w' ⟨rfl, ⟨nd, rfl⟩⟩))
       go_roundg k1
       case measure => have := HK1.out; omega
       case rel => exact ⟨(x5_1), (wrap64 (x6_1 + 1)), (by first | rfl | (simp; done) | (simp [*]; done)), H', ⟨by have := HK1.out; omega⟩, ⟨by (with_reducible repeat (first | apply Ra_ | apply Rn_ | apply Rd_)); exact HO_5.out⟩, ⟨by with_reducible repeat (first | exact HB.out | apply ba_ | apply bn_ | apply bd_)⟩⟩
     ·
      rw [if_neg c8] at H
      exact nn_ H
   ·
    rw [if_neg c5] at H
    have c5b0 : decide (x6_1 < (l0.length : Int)) = false := decide_eq_false c5
    clear c5
    obtain rfl := Option.some.inj H
    go_wp2
    go_ret
    exact ⟨_, by first | rfl | (simp [errW_none, errW_some] <;> rfl) | (simp [*, errW_none, errW_some] <;> rfl), by (with_reducible repeat (first | apply Ra_ | apply Rn_ | apply Rd_)); exact HO_5.out, by with_reducible repeat (first | exact HB.out | apply ba_ | apply bn_ | apply bd_)⟩
/-! spec_runningAt -/
def spec_runningAt.l0 : Nat → List (S41) → List Int → Int → List Int → Int → Option (List Int)
 | 0, _, _, _, _, _ => none
 | k + 1, x0, x1, x2, x7, x8 => if x8 < (x0.length : Int) then (if 0 ≤ x8 then (if x8 < (x1.length : Int) then (if (rd x1 x8) ≤ x2 then (if x2 < (wrap64 ((rd x1 x8) + ((rd_T41 x0 x8).f0))) then (if x7.length < 17592186044416 then (spec_runningAt.l0 k x0 x1 x2 (x7 ++ [x8]) (wrap64 (x8 + 1))) else (none)) else (spec_runningAt.l0 k x0 x1 x2 x7 (wrap64 (x8 + 1)))) else (spec_runningAt.l0 k x0 x1 x2 x7 (wrap64 (x8 + 1)))) else (none)) else (none)) else (some x7)
def spec_runningAt.f (k : Nat) (l0 : List (S41)) (l1 : List Int) (a2 : Int) : Option (List Int) := spec_runningAt.l0 k l0 l1 a2 (([] : List Int)) 0
set_option maxHeartbeats 8000000 in
set_option maxRecDepth 100000 in
theorem spec_runningAt.calls (k : Nat) (A0 : Option Addr) (c0 : Nat) (l0 : List (S41)) (A1 : Option Addr) (c1 : Nat) (l1 : List Int) (a2 : Int) (r : List Int) (w : World) (hr0 : Kd.C k41 w A0 l0.length l0) (hc0 : l0.length ≤ c0) (hr1 : Kd.C (Kd.int .i64) w A1 l1.length l1) (hc1 : l1.length ≤ c1) (h : spec_runningAt.f k l0 l1 a2 = some r) :
  Calls Tryd.prog 91 #[.slice A0 l0.length c0, .slice A1 l1.length c1, .int .i64 a2] w fun e w' => ∃ v0_ : Value, e = .returned (v0_) ∧ Kd.R (Kd.int .i64) 3 w' w.heap.size (fun _ => True) v0_ r ∧ Below w.heap.size w w' := by
 have HR0 := mk0 hr0
 have HC0 := mk0 hc0
 clear hr0 hc0
 have HR1 := mk0 hr1
 have HC1 := mk0 hc1
 clear hr1 hc1
 have HB := mk0 (Below.refl w.heap.size w)
 have H : (spec_runningAt.l0 k l0 l1 a2 (([] : List Int)) 0) = some r := h
 clear h
 obtain ⟨y306, hy306⟩ : ∃ y_ : List Int, y_ = (([] : List Int)) := ⟨_, rfl⟩
 replace H : (spec_runningAt.l0 k l0 l1 a2 y306 0) = some r := by first | (rw [hy306]; with_reducible exact H) | (rw [hy306]; exact (Option.bind_some _ _).symm.trans H) | (rw [hy306]; exact H) | exact H
 have Ny306 := mk0 hy306
 clear hy306
 have H' := mk0 H
 clear H
 go_enter Tryd.func91, Tryd.ntmps91
 go_wp2_with (first | ((with_reducible refine gate_dst (N := 9) rfl ?_); refine Kd.R_lit (Kd.int .i64) _ 3 ?hg (N := 9) ?hd (xs := ([] : List Int)) (inner := []) (ok := fun _ => True) (okp := fun _ => True) ?hr ?hp (fun _ hk => hk) trivial (Below.refl _ _) (Nat.le_refl _) (by simp) ?_; (case hd => rfl); (case hg => rfl); (case hr => first | (go_simp; done) | (go_simp; rfl)); (case hp => exact (Reps.none _ _)); intro v307 w4 ho5 hb hg_ hnew_; clear hg_ hnew_; (first | rw [← Ny306.out] at ho5 | (simp only [Int.reduceToNat] at ho5; rw [← Ny306.out] at ho5)); have HO308 := mk0 (Kd.R_lower ho5 (below_size (by with_reducible repeat (first | exact HB.out | apply ba_ | apply bn_ | apply bd_)))); replace HB := mk0 (below_step (by with_reducible repeat (first | exact HB.out | apply ba_ | apply bn_ | apply bd_)) hb); clear hb ho5))
 repeat (go_quiet (first | ((with_reducible refine gate_dst (N := 9) rfl ?_); refine Kd.R_lit (Kd.int .i64) _ 3 ?hg (N := 9) ?hd (xs := ([] : List Int)) (inner := []) (ok := fun _ => True) (okp := fun _ => True) ?hr ?hp (fun _ hk => hk) trivial (Below.refl _ _) (Nat.le_refl _) (by simp) ?_; (case hd => rfl); (case hg => rfl); (case hr => first | (go_simp; done) | (go_simp; rfl)); (case hp => exact (Reps.none _ _)); intro v307 w4 ho5 hb hg_ hnew_; clear hg_ hnew_; (first | rw [← Ny306.out] at ho5 | (simp only [Int.reduceToNat] at ho5; rw [← Ny306.out] at ho5)); have HO308 := mk0 (Kd.R_lower ho5 (below_size (by with_reducible repeat (first | exact HB.out | apply ba_ | apply bn_ | apply bd_)))); replace HB := mk0 (below_step (by with_reducible repeat (first | exact HB.out | apply ba_ | apply bn_ | apply bd_)) hb); clear hb ho5)); try go_wp2_with (first | ((with_reducible refine gate_dst (N := 9) rfl ?_); refine Kd.R_lit (Kd.int .i64) _ 3 ?hg (N := 9) ?hd (xs := ([] : List Int)) (inner := []) (ok := fun _ => True) (okp := fun _ => True) ?hr ?hp (fun _ hk => hk) trivial (Below.refl _ _) (Nat.le_refl _) (by simp) ?_; (case hd => rfl); (case hg => rfl); (case hr => first | (go_simp; done) | (go_simp; rfl)); (case hp => exact (Reps.none _ _)); intro v307 w4 ho5 hb hg_ hnew_; clear hg_ hnew_; (first | rw [← Ny306.out] at ho5 | (simp only [Int.reduceToNat] at ho5; rw [← Ny306.out] at ho5)); have HO308 := mk0 (Kd.R_lower ho5 (below_size (by with_reducible repeat (first | exact HB.out | apply ba_ | apply bn_ | apply bd_)))); replace HB := mk0 (below_step (by with_reducible repeat (first | exact HB.out | apply ba_ | apply bn_ | apply bd_)) hb); clear hb ho5)))
 go_loopg [7, 8] k (fun kq v7 v8 w' => ∃ (x7_1 : List Int) (x8_1 : Int), v8 = .int .i64 x8_1 ∧ Aside0 (spec_runningAt.l0 kq l0 l1 a2 x7_1 x8_1 = some r) ∧ Aside0 (kq ≤ k) ∧ Aside0 (Kd.R (Kd.int .i64) 3 w' w.heap.size (fun _ => True) v7 x7_1) ∧ Aside0 (Below w.heap.size w w'))
 case atStart => exact ⟨(y306), (0), (by first | rfl | (simp; done) | (simp [*]; done)), H', ⟨Nat.le_refl _⟩, ⟨by (with_reducible repeat (first | apply Ra_ | apply Rn_ | apply Rd_)); exact HO308.out⟩, ⟨by with_reducible repeat (first | exact HB.out | apply ba_ | apply bn_ | apply bd_)⟩⟩
 case round =>
  clear H'
  try clear c1
  try clear p2
  obtain ⟨x7_1, x8_1, rfl, HA, HK1, HO_7, HB⟩ := hrel
  cases gk with
  | zero => exact absurd HA.out (by simp [spec_runningAt.l0])
  | succ k1 =>
   have H := HA.out
   clear HA
   simp only [spec_runningAt.l0] at H
   by_cases c6 : x8_1 < (l0.length : Int)
   ·
    rw [if_pos c6] at H
    have c6b0 : decide (x8_1 < (l0.length : Int)) = true := decide_eq_true c6
    clear c6
    by_cases c7 : 0 ≤ x8_1
    ·
     rw [if_pos c7] at H
     have c7b0 : decide (0 ≤ x8_1) = true := decide_eq_true c7
     clear c7
     by_cases c8 : x8_1 < (l1.length : Int)
     ·
      rw [if_pos c8] at H
      have c8b0 : decide (x8_1 < (l1.length : Int)) = true := decide_eq_true c8
      clear c8
      by_cases c9 : (rd l1 x8_1) ≤ a2
      ·
       rw [if_pos c9] at H
       have c9b0 : decide ((rd l1 x8_1) ≤ a2) = true := decide_eq_true c9
       clear c9
       by_cases c10 : a2 < (wrap64 ((rd l1 x8_1) + ((rd_T41 l0 x8_1).f0)))
       ·
        rw [if_pos c10] at H
        have c10b0 : decide (a2 < (wrap64 ((rd l1 x8_1) + ((rd_T41 l0 x8_1).f0)))) = true := decide_eq_true c10
        clear c10
        by_cases c11 : x7_1.length < 17592186044416
        ·
         rw [if_pos c11] at H
         have LMc11 := mk0 c11
         clear c11
         obtain ⟨y312, hy312⟩ : ∃ y_ : List Int, y_ = (x7_1 ++ [x8_1]) := ⟨_, rfl⟩
         replace H : (spec_runningAt.l0 k1 l0 l1 a2 y312 (wrap64 (x8_1 + 1))) = some r := by first | (rw [hy312]; with_reducible exact H) | (rw [hy312]; exact (Option.bind_some _ _).symm.trans H) | (rw [hy312]; exact H) | exact H
         have Ny312 := mk0 hy312
         clear hy312
         have H' := mk0 H
         clear H
         have p309 : 0 ≤ (x8_1 : Int) := od_ (by with_reducible assumption)
         have q309 : x8_1 < (l1.length : Int) := od_ (by with_reducible assumption)
         obtain ⟨ad309, e309, hx309_0⟩ := Kd.at_int HR1.out x8_1 p309 q309
         cases e309
         replace hx309_0 := (HB.out.cell (World.block_lt_of_cell? w _ hx309_0)).trans hx309_0
         replace p309 := eq_true p309
         replace q309 := eq_true q309
         have p310 : 0 ≤ (x8_1 : Int) := od_ (by with_reducible assumption)
         have q310 : x8_1 < (l1.length : Int) := od_ (by with_reducible assumption)
         obtain ⟨ad310, e310, hx310_0⟩ := Kd.at_int HR1.out x8_1 p310 q310
         obtain rfl : ad309 = ad310 := (by injection e310)
         replace hx310_0 := (HB.out.cell (World.block_lt_of_cell? w _ hx310_0)).trans hx310_0
         replace p310 := eq_true p310
         replace q310 := eq_true q310
         have p311 : 0 ≤ (x8_1 : Int) := od_ (by with_reducible assumption)
         have q311 : x8_1 < (l0.length : Int) := od_ (by with_reducible assumption)
         obtain ⟨ad311, A311_1, c311_1, e311, hx311_0, hx311_1, hx311_2, hx311_3, hl311_1, hi311_1⟩ := at_T41 HR0.out x8_1 p311 q311
         cases e311
         replace hx311_0 := (HB.out.cell (World.block_lt_of_cell? w _ hx311_0)).trans hx311_0
         replace hx311_1 := (HB.out.cell (World.block_lt_of_cell? w _ hx311_1)).trans hx311_1
         replace hx311_2 := (HB.out.cell (World.block_lt_of_cell? w _ hx311_2)).trans hx311_2
         replace hx311_3 := (HB.out.cell (World.block_lt_of_cell? w _ hx311_3)).trans hx311_3
         have HR311_1 := mk0 hi311_1
         have HC311_1 := mk0 hl311_1
         clear hi311_1 hl311_1
         replace p311 := eq_true p311
         replace q311 := eq_true q311
         go_wp2_with (first | ((with_reducible refine gate_builtin (b := .append) (xs := #[.tmp 36, .tmp 38]) rfl ?_); at_builtin; refine Kd.R_append (Kd.int .i64) (w0 := w) w.heap.size rfl (.tmp 36) (.tmp 38) 31 3 (.int .i64 0) 8 rfl Tryd.underlying31 info3 rfl (by decide) (by omega) u7 x7_1 x8_1 [.int .i64 x8_1] (fun _ => True) (fun _ => False) rfl rfl ?aP (fun _ hk => hk.elim) ?aF ?aO ?aB ?aS ?aL ?_; (case aP => exact rfl); (case aB => exact (by with_reducible repeat (first | exact HB.out | apply ba_ | apply bn_ | apply bd_))); (case aF => exact (fun _ _ => trivial)); (case aO => exact (by (with_reducible repeat (first | apply Ra_ | apply Rn_ | apply Rd_)); exact HO_7.out)); (case aS => exact (below_size (by with_reducible repeat (first | exact HB.out | apply ba_ | apply bn_ | apply bd_)))); (case aL => have := LMc11.out; omega); intro v313 w12 ho hb hg hat; rw [← Ny312.out] at ho; replace HB := mk0 (hb); have HO314 := mk0 (ho); clear HO_7; clear ho hb hg hat))
         repeat (go_quiet (first | ((with_reducible refine gate_builtin (b := .append) (xs := #[.tmp 36, .tmp 38]) rfl ?_); at_builtin; refine Kd.R_append (Kd.int .i64) (w0 := w) w.heap.size rfl (.tmp 36) (.tmp 38) 31 3 (.int .i64 0) 8 rfl Tryd.underlying31 info3 rfl (by decide) (by omega) u7 x7_1 x8_1 [.int .i64 x8_1] (fun _ => True) (fun _ => False) rfl rfl ?aP (fun _ hk => hk.elim) ?aF ?aO ?aB ?aS ?aL ?_; (case aP => exact rfl); (case aB => exact (by with_reducible repeat (first | exact HB.out | apply ba_ | apply bn_ | apply bd_))); (case aF => exact (fun _ _ => trivial)); (case aO => exact (by (with_reducible repeat (first | apply Ra_ | apply Rn_ | apply Rd_)); exact HO_7.out)); (case aS => exact (below_size (by with_reducible repeat (first | exact HB.out | apply ba_ | apply bn_ | apply bd_)))); (case aL => have := LMc11.out; omega); intro v313 w12 ho hb hg hat; rw [← Ny312.out] at ho; replace HB := mk0 (hb); have HO314 := mk0 (ho); clear HO_7; clear ho hb hg hat)); try go_wp2_with (first | ((with_reducible refine gate_builtin (b := .append) (xs := #[.tmp 36, .tmp 38]) rfl ?_); at_builtin; refine Kd.R_append (Kd.int .i64) (w0 := w) w.heap.size rfl (.tmp 36) (.tmp 38) 31 3 (.int .i64 0) 8 rfl Tryd.underlying31 info3 rfl (by decide) (by omega) u7 x7_1 x8_1 [.int .i64 x8_1] (fun _ => True) (fun _ => False) rfl rfl ?aP (fun _ hk => hk.elim) ?aF ?aO ?aB ?aS ?aL ?_; (case aP => exact rfl); (case aB => exact (by with_reducible repeat (first | exact HB.out | apply ba_ | apply bn_ | apply bd_))); (case aF => exact (fun _ _ => trivial)); (case aO => exact (by (with_reducible repeat (first | apply Ra_ | apply Rn_ | apply Rd_)); exact HO_7.out)); (case aS => exact (below_size (by with_reducible repeat (first | exact HB.out | apply ba_ | apply bn_ | apply bd_)))); (case aL => have := LMc11.out; omega); intro v313 w12 ho hb hg hat; rw [← Ny312.out] at ho; replace HB := mk0 (hb); have HO314 := mk0 (ho); clear HO_7; clear ho hb hg hat)))
         go_roundg k1
         case measure => have := HK1.out; omega
         case rel => exact ⟨(y312), (wrap64 (x8_1 + 1)), (by first | rfl | (simp; done) | (simp [*]; done)), H', ⟨by have := HK1.out; omega⟩, ⟨by (with_reducible repeat (first | apply Ra_ | apply Rn_ | apply Rd_)); exact HO314.out⟩, ⟨by with_reducible repeat (first | exact HB.out | apply ba_ | apply bn_ | apply bd_)⟩⟩
        ·
         rw [if_neg c11] at H
         exact nn_ H
       ·
        rw [if_neg c10] at H
        have c10b0 : decide (a2 < (wrap64 ((rd l1 x8_1) + ((rd_T41 l0 x8_1).f0)))) = false := decide_eq_false c10
        clear c10
        have H' := mk0 H
        clear H
        have p309 : 0 ≤ (x8_1 : Int) := od_ (by with_reducible assumption)
        have q309 : x8_1 < (l1.length : Int) := od_ (by with_reducible assumption)
        obtain ⟨ad309, e309, hx309_0⟩ := Kd.at_int HR1.out x8_1 p309 q309
        cases e309
        replace hx309_0 := (HB.out.cell (World.block_lt_of_cell? w _ hx309_0)).trans hx309_0
        replace p309 := eq_true p309
        replace q309 := eq_true q309
        have p310 : 0 ≤ (x8_1 : Int) := od_ (by with_reducible assumption)
        have q310 : x8_1 < (l1.length : Int) := od_ (by with_reducible assumption)
        obtain ⟨ad310, e310, hx310_0⟩ := Kd.at_int HR1.out x8_1 p310 q310
        obtain rfl : ad309 = ad310 := (by injection e310)
        replace hx310_0 := (HB.out.cell (World.block_lt_of_cell? w _ hx310_0)).trans hx310_0
        replace p310 := eq_true p310
        replace q310 := eq_true q310
        have p311 : 0 ≤ (x8_1 : Int) := od_ (by with_reducible assumption)
        have q311 : x8_1 < (l0.length : Int) := od_ (by with_reducible assumption)
        obtain ⟨ad311, A311_1, c311_1, e311, hx311_0, hx311_1, hx311_2, hx311_3, hl311_1, hi311_1⟩ := at_T41 HR0.out x8_1 p311 q311
        cases e311
        replace hx311_0 := (HB.out.cell (World.block_lt_of_cell? w _ hx311_0)).trans hx311_0
        replace hx311_1 := (HB.out.cell (World.block_lt_of_cell? w _ hx311_1)).trans hx311_1
        replace hx311_2 := (HB.out.cell (World.block_lt_of_cell? w _ hx311_2)).trans hx311_2
        replace hx311_3 := (HB.out.cell (World.block_lt_of_cell? w _ hx311_3)).trans hx311_3
        have HR311_1 := mk0 hi311_1
        have HC311_1 := mk0 hl311_1
        clear hi311_1 hl311_1
        replace p311 := eq_true p311
        replace q311 := eq_true q311
        go_wp2
        repeat (go_quiet (fail); try go_wp2)
        go_roundg k1
        case measure => have := HK1.out; omega
        case rel => exact ⟨(x7_1), (wrap64 (x8_1 + 1)), (by first | rfl | (simp; done) | (simp [*]; done)), H', ⟨by have := HK1.out; omega⟩, ⟨by (with_reducible repeat (first | apply Ra_ | apply Rn_ | apply Rd_)); exact HO_7.out⟩, ⟨by with_reducible repeat (first | exact HB.out | apply ba_ | apply bn_ | apply bd_)⟩⟩
      ·
       rw [if_neg c9] at H
       have c9b0 : decide ((rd l1 x8_1) ≤ a2) = false := decide_eq_false c9
       clear c9
       have H' := mk0 H
       clear H
       have p309 : 0 ≤ (x8_1 : Int) := od_ (by with_reducible assumption)
       have q309 : x8_1 < (l1.length : Int) := od_ (by with_reducible assumption)
       obtain ⟨ad309, e309, hx309_0⟩ := Kd.at_int HR1.out x8_1 p309 q309
       cases e309
       replace hx309_0 := (HB.out.cell (World.block_lt_of_cell? w _ hx309_0)).trans hx309_0
       replace p309 := eq_true p309
       replace q309 := eq_true q309
       go_wp2
       repeat (go_quiet (fail); try go_wp2)
       go_roundg k1
       case measure => have := HK1.out; omega
       case rel => exact ⟨(x7_1), (wrap64 (x8_1 + 1)), (by first | rfl | (simp; done) | (simp [*]; done)), H', ⟨by have := HK1.out; omega⟩, ⟨by (with_reducible repeat (first | apply Ra_ | apply Rn_ | apply Rd_)); exact HO_7.out⟩, ⟨by with_reducible repeat (first | exact HB.out | apply ba_ | apply bn_ | apply bd_)⟩⟩
     ·
      rw [if_neg c8] at H
      exact nn_ H
    ·
     rw [if_neg c7] at H
     exact nn_ H
   ·
    rw [if_neg c6] at H
    have c6b0 : decide (x8_1 < (l0.length : Int)) = false := decide_eq_false c6
    clear c6
    obtain rfl := Option.some.inj H
    go_wp2
    repeat (go_quiet (fail); try go_wp2)
    go_ret
    exact ⟨_, by first | rfl | (simp [errW_none, errW_some] <;> rfl) | (simp [*, errW_none, errW_some] <;> rfl), by (with_reducible repeat (first | apply Ra_ | apply Rn_ | apply Rd_)); exact HO_7.out, by with_reducible repeat (first | exact HB.out | apply ba_ | apply bn_ | apply bd_)⟩
/-! spec_used -/
def spec_used.l0 : Nat → List (S41) → List Int → Int → Int → Int → Option (Int)
 | 0, _, _, _, _, _ => none
 | k + 1, x0, x1, x2, x7, x8 => if x8 < (x1.length : Int) then (if 0 ≤ x8 then (if 0 ≤ (rd x1 x8) then (if (rd x1 x8) < (x0.length : Int) then (if ((rd_T41 x0 (rd x1 x8)).f2) = x2 then (spec_used.l0 k x0 x1 x2 (wrap64 (x7 + ((rd_T41 x0 (rd x1 x8)).f3))) (wrap64 (x8 + 1))) else (spec_used.l0 k x0 x1 x2 x7 (wrap64 (x8 + 1)))) else (none)) else (none)) else (none)) else (some x7)
def spec_used.f (k : Nat) (l0 : List (S41)) (l1 : List Int) (a2 : Int) : Option (Int) := spec_used.l0 k l0 l1 a2 0 0
set_option maxHeartbeats 8000000 in
set_option maxRecDepth 100000 in
theorem spec_used.calls (k : Nat) (A0 : Option Addr) (c0 : Nat) (l0 : List (S41)) (A1 : Option Addr) (c1 : Nat) (l1 : List Int) (a2 : Int) (r : Int) (w : World) (hr0 : Kd.C k41 w A0 l0.length l0) (hc0 : l0.length ≤ c0) (hr1 : Kd.C (Kd.int .i64) w A1 l1.length l1) (hc1 : l1.length ≤ c1) (h : spec_used.f k l0 l1 a2 = some r) :
  Calls Tryd.prog 95 #[.slice A0 l0.length c0, .slice A1 l1.length c1, .int .i64 a2] w fun e w' => e = .returned (.int .i64 r) ∧ Drawn0 w w' := by
 have HR0 := mk0 hr0
 have HC0 := mk0 hc0
 clear hr0 hc0
 have HR1 := mk0 hr1
 have HC1 := mk0 hc1
 clear hr1 hc1
 have H : (spec_used.l0 k l0 l1 a2 0 0) = some r := h
 clear h
 have H' := mk0 H
 clear H
 go_enter Tryd.func95, Tryd.ntmps95
 go_wp2
 go_loopg [7, 8] k (fun kq v7 v8 w' => ∃ (x7_1 : Int) (x8_1 : Int), v7 = .int .i64 x7_1 ∧ v8 = .int .i64 x8_1 ∧ Aside0 (spec_used.l0 kq l0 l1 a2 x7_1 x8_1 = some r) ∧ Aside0 (kq ≤ k) ∧ Drawn0 w w')
 case atStart => exact ⟨(0), (0), (by first | rfl | (simp; done) | (simp [*]; done)), (by first | rfl | (simp; done) | (simp [*]; done)), H', ⟨Nat.le_refl _⟩, by repeat (first | exact Drawn0.refl _ | apply Drawn0.step)⟩
 case round =>
  clear H'
  try clear c1
  try clear p2
  obtain ⟨x7_1, x8_1, rfl, rfl, HA, HK1, ⟨m1, rfl⟩⟩ := hrel
  cases gk with
  | zero => exact absurd HA.out (by simp [spec_used.l0])
  | succ k1 =>
   have H := HA.out
   clear HA
   simp only [spec_used.l0] at H
   by_cases c4 : x8_1 < (l1.length : Int)
   ·
    rw [if_pos c4] at H
    have c4b0 : decide (x8_1 < (l1.length : Int)) = true := decide_eq_true c4
    clear c4
    by_cases c5 : 0 ≤ x8_1
    ·
     rw [if_pos c5] at H
     have c5b0 : decide (0 ≤ x8_1) = true := decide_eq_true c5
     clear c5
     by_cases c6 : 0 ≤ (rd l1 x8_1)
     ·
      rw [if_pos c6] at H
      have c6b0 : decide (0 ≤ (rd l1 x8_1)) = true := decide_eq_true c6
      clear c6
      by_cases c7 : (rd l1 x8_1) < (l0.length : Int)
      ·
       rw [if_pos c7] at H
       have c7b0 : decide ((rd l1 x8_1) < (l0.length : Int)) = true := decide_eq_true c7
       clear c7
       by_cases c8 : ((rd_T41 l0 (rd l1 x8_1)).f2) = a2
       ·
        rw [if_pos c8] at H
        have c8b0 : (((rd_T41 l0 (rd l1 x8_1)).f2) == a2) = true := beq_iff_eq.mpr c8
        have c8b1 : (((rd_T41 l0 (rd l1 x8_1)).f2) != a2) = false := bne_eq_false_iff_eq.mpr c8
        clear c8
        have H' := mk0 H
        clear H
        have p315 : 0 ≤ (x8_1 : Int) := od_ (by with_reducible assumption)
        have q315 : x8_1 < (l1.length : Int) := od_ (by with_reducible assumption)
        obtain ⟨ad315, e315, hx315_0⟩ := Kd.at_int HR1.out x8_1 p315 q315
        cases e315
        replace p315 := eq_true p315
        replace q315 := eq_true q315
        have p316 : 0 ≤ ((rd l1 x8_1) : Int) := od_ (by with_reducible assumption)
        have q316 : (rd l1 x8_1) < (l0.length : Int) := od_ (by with_reducible assumption)
        obtain ⟨ad316, A316_1, c316_1, e316, hx316_0, hx316_1, hx316_2, hx316_3, hl316_1, hi316_1⟩ := at_T41 HR0.out (rd l1 x8_1) p316 q316
        cases e316
        have HR316_1 := mk0 hi316_1
        have HC316_1 := mk0 hl316_1
        clear hi316_1 hl316_1
        replace p316 := eq_true p316
        replace q316 := eq_true q316
        have p317 : 0 ≤ (x8_1 : Int) := od_ (by with_reducible assumption)
        have q317 : x8_1 < (l1.length : Int) := od_ (by with_reducible assumption)
        obtain ⟨ad317, e317, hx317_0⟩ := Kd.at_int HR1.out x8_1 p317 q317
        obtain rfl : ad315 = ad317 := (by injection e317)
        replace p317 := eq_true p317
        replace q317 := eq_true q317
        have p318 : 0 ≤ ((rd l1 x8_1) : Int) := od_ (by with_reducible assumption)
        have q318 : (rd l1 x8_1) < (l0.length : Int) := od_ (by with_reducible assumption)
        obtain ⟨ad318, A318_1, c318_1, e318, hx318_0, hx318_1, hx318_2, hx318_3, hl318_1, hi318_1⟩ := at_T41 HR0.out (rd l1 x8_1) p318 q318
        obtain rfl : ad316 = ad318 := (by injection e318)
        have HR318_1 := mk0 hi318_1
        have HC318_1 := mk0 hl318_1
        clear hi318_1 hl318_1
        replace p318 := eq_true p318
        replace q318 := eq_true q318
        have ea_ := Option.some.inj (hx316_1.symm.trans hx318_1)
        injection ea_ with ea_ en_ ec_
        subst ea_
        subst ec_
        clear en_
        go_wp2
        go_roundg k1
        case measure => have := HK1.out; omega
        case rel => exact ⟨(wrap64 (x7_1 + ((rd_T41 l0 (rd l1 x8_1)).f3))), (wrap64 (x8_1 + 1)), (by first | rfl | (simp; done) | (simp [*]; done)), (by first | rfl | (simp; done) | (simp [*]; done)), H', ⟨by have := HK1.out; omega⟩, by repeat (first | exact Drawn0.refl _ | apply Drawn0.step)⟩
       ·
        rw [if_neg c8] at H
        have c8b0 : (((rd_T41 l0 (rd l1 x8_1)).f2) == a2) = false := beq_eq_false_iff_ne.mpr c8
        have c8b1 : (((rd_T41 l0 (rd l1 x8_1)).f2) != a2) = true := bne_iff_ne.mpr c8
        have H' := mk0 H
        clear H
        have p315 : 0 ≤ (x8_1 : Int) := od_ (by with_reducible assumption)
        have q315 : x8_1 < (l1.length : Int) := od_ (by with_reducible assumption)
        obtain ⟨ad315, e315, hx315_0⟩ := Kd.at_int HR1.out x8_1 p315 q315
        cases e315
        replace p315 := eq_true p315
        replace q315 := eq_true q315
        have p316 : 0 ≤ ((rd l1 x8_1) : Int) := od_ (by with_reducible assumption)
        have q316 : (rd l1 x8_1) < (l0.length : Int) := od_ (by with_reducible assumption)
        obtain ⟨ad316, A316_1, c316_1, e316, hx316_0, hx316_1, hx316_2, hx316_3, hl316_1, hi316_1⟩ := at_T41 HR0.out (rd l1 x8_1) p316 q316
        cases e316
        have HR316_1 := mk0 hi316_1
        have HC316_1 := mk0 hl316_1
        clear hi316_1 hl316_1
        replace p316 := eq_true p316
        replace q316 := eq_true q316
        go_wp2
        go_roundg k1
        case measure => have := HK1.out; omega
        case rel => exact ⟨(x7_1), (wrap64 (x8_1 + 1)), (by first | rfl | (simp; done) | (simp [*]; done)), (by first | rfl | (simp; done) | (simp [*]; done)), H', ⟨by have := HK1.out; omega⟩, by repeat (first | exact Drawn0.refl _ | apply Drawn0.step)⟩
      ·
       rw [if_neg c7] at H
       exact nn_ H
     ·
      rw [if_neg c6] at H
      exact nn_ H
    ·
     rw [if_neg c5] at H
     exact nn_ H
   ·
    rw [if_neg c4] at H
    have c4b0 : decide (x8_1 < (l1.length : Int)) = false := decide_eq_false c4
    clear c4
    obtain rfl := Option.some.inj H
    go_wp2
    go_ret
    exact ⟨by first | rfl | (simp; done) | (simp [*]; done), by repeat (first | exact Drawn0.refl _ | apply Drawn0.step)⟩
end Go.Proofs.YtlcdffhhimbbmaaDoor.PFnValidLog
