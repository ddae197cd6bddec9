/- The body of the law FnDoneBy, walked: cut by a program of mine from what print.sh printed, with my contracts of what it calls. -/
import Derived.Test.YtpmfghbjkampkaaDoorShimVDone
namespace Go.Proofs.YtpmfghbjkampkaaDoor.PFnValidLog
open Go Go.RowKit Go.Proofs.YtpmfghbjkampkaaDoorW.PrintWords Go.Proofs.YtpmfghbjkampkaaDoorW.PrintLast Go.Proofs.YtpmfghbjkampkaaDoorW.PrintMore
attribute [local go_sem] max2_int min2_int max_two min_two max_three min_three max_four min_four
set_option linter.unusedVariables false
set_option linter.unusedSimpArgs false
def laws_equalInts.l0 : Nat → List Int → List Int → Int → Option (Bool)
 | 0, _, _, _ => none
 | k + 1, x0, x1, x5 => if x5 < (x0.length : Int) then (if 0 ≤ x5 then (if x5 < (x1.length : Int) then (if (rd x0 x5) = (rd x1 x5) then (laws_equalInts.l0 k x0 x1 (wrap64 (x5 + 1))) else (some false)) else (none)) else (none)) else (some true)
def laws_equalInts.f (k : Nat) (l0 : List Int) (l1 : List Int) : Option (Bool) := if (l0.length : Int) = (l1.length : Int) then (laws_equalInts.l0 k l0 l1 0) else (some false)
set_option maxHeartbeats 8000000 in
set_option maxRecDepth 100000 in
theorem laws_equalInts.calls (k : Nat) (A0 : Option Addr) (c0 : Nat) (l0 : List Int) (A1 : Option Addr) (c1 : Nat) (l1 : List Int) (r : Bool) (w : World) (hr0 : Kd.C (Kd.int .i64) w A0 l0.length l0) (hc0 : l0.length ≤ c0) (hr1 : Kd.C (Kd.int .i64) w A1 l1.length l1) (hc1 : l1.length ≤ c1) (h : laws_equalInts.f k l0 l1 = some r) :
  Calls Tryd.prog 25 #[.slice A0 l0.length c0, .slice A1 l1.length c1] w fun e w' => e = .returned (.bool r) ∧ Drawn0 w w' := by
 have HR0 := mk0 hr0
 have HC0 := mk0 hc0
 clear hr0 hc0
 have HR1 := mk0 hr1
 have HC1 := mk0 hc1
 clear hr1 hc1
 have H : (if (l0.length : Int) = (l1.length : Int) then (laws_equalInts.l0 k l0 l1 0) else (some false)) = some r := h
 clear h
 by_cases c3 : (l0.length : Int) = (l1.length : Int)
 ·
  rw [if_pos c3] at H
  have c3b0 : ((l0.length : Int) == (l1.length : Int)) = true := beq_iff_eq.mpr c3
  have c3b1 : ((l0.length : Int) != (l1.length : Int)) = false := bne_eq_false_iff_eq.mpr c3
  have c3b2 : (l0.length == l1.length) = true := by first | simpa using c3 | (simp at c3 ⊢; omega)
  clear c3
  have H' := mk0 H
  clear H
  go_enter Tryd.func25, Tryd.ntmps25
  go_wp2
  repeat (go_quiet (fail); try go_wp2)
  go_loopg [5] k (fun kq v5 w' => ∃ (x5_1 : Int), v5 = .int .i64 x5_1 ∧ Aside0 (laws_equalInts.l0 kq l0 l1 x5_1 = some r) ∧ Aside0 (kq ≤ k) ∧ Drawn0 w w')
  case atStart => exact ⟨(0), (by first | rfl | (simp; done) | (simp [*]; done)), H', ⟨Nat.le_refl _⟩, by repeat (first | exact Drawn0.refl _ | apply Drawn0.step)⟩
  case round =>
   clear H'
   try clear c1
   try clear c2
   try clear p2
   try clear c3
   try clear c3b0
   try clear c3b1
   try clear c3b2
   obtain ⟨x5_1, rfl, HA, HK1, ⟨m1, rfl⟩⟩ := hrel
   cases gk with
   | zero => exact absurd HA.out (by simp [laws_equalInts.l0])
   | succ k1 =>
    have H := HA.out
    clear HA
    simp only [laws_equalInts.l0] at H
    by_cases c4 : x5_1 < (l0.length : Int)
    ·
     rw [if_pos c4] at H
     have c4b0 : decide (x5_1 < (l0.length : Int)) = true := decide_eq_true c4
     clear c4
     by_cases c5 : 0 ≤ x5_1
     ·
      rw [if_pos c5] at H
      have c5b0 : decide (0 ≤ x5_1) = true := decide_eq_true c5
      clear c5
      by_cases c6 : x5_1 < (l1.length : Int)
      ·
       rw [if_pos c6] at H
       have c6b0 : decide (x5_1 < (l1.length : Int)) = true := decide_eq_true c6
       clear c6
       by_cases c7 : (rd l0 x5_1) = (rd l1 x5_1)
       ·
        rw [if_pos c7] at H
        have c7b0 : ((rd l0 x5_1) == (rd l1 x5_1)) = true := beq_iff_eq.mpr c7
        have c7b1 : ((rd l0 x5_1) != (rd l1 x5_1)) = false := bne_eq_false_iff_eq.mpr c7
        clear c7
        have H' := mk0 H
        clear H
        have p515 : 0 ≤ (x5_1 : Int) := od_ (by with_reducible assumption)
        have q515 : x5_1 < (l0.length : Int) := od_ (by with_reducible assumption)
        obtain ⟨ad515, e515, hx515_0⟩ := Kd.at_int HR0.out x5_1 p515 q515
        cases e515
        replace p515 := eq_true p515
        replace q515 := eq_true q515
        have p516 : 0 ≤ (x5_1 : Int) := od_ (by with_reducible assumption)
        have q516 : x5_1 < (l1.length : Int) := od_ (by with_reducible assumption)
        obtain ⟨ad516, e516, hx516_0⟩ := Kd.at_int HR1.out x5_1 p516 q516
        cases e516
        replace p516 := eq_true p516
        replace q516 := eq_true q516
        go_wp2
        repeat (go_quiet (fail); try go_wp2)
        go_roundg k1
        case measure => have := HK1.out; omega
        case rel => exact ⟨(wrap64 (x5_1 + 1)), (by first | rfl | (simp; done) | (simp [*]; done)), H', ⟨by have := HK1.out; omega⟩, by repeat (first | exact Drawn0.refl _ | apply Drawn0.step)⟩
       ·
        rw [if_neg c7] at H
        have c7b0 : ((rd l0 x5_1) == (rd l1 x5_1)) = false := beq_eq_false_iff_ne.mpr c7
        have c7b1 : ((rd l0 x5_1) != (rd l1 x5_1)) = true := bne_iff_ne.mpr c7
        obtain rfl := Option.some.inj H
        have p515 : 0 ≤ (x5_1 : Int) := od_ (by with_reducible assumption)
        have q515 : x5_1 < (l0.length : Int) := od_ (by with_reducible assumption)
        obtain ⟨ad515, e515, hx515_0⟩ := Kd.at_int HR0.out x5_1 p515 q515
        cases e515
        replace p515 := eq_true p515
        replace q515 := eq_true q515
        have p516 : 0 ≤ (x5_1 : Int) := od_ (by with_reducible assumption)
        have q516 : x5_1 < (l1.length : Int) := od_ (by with_reducible assumption)
        obtain ⟨ad516, e516, hx516_0⟩ := Kd.at_int HR1.out x5_1 p516 q516
        cases e516
        replace p516 := eq_true p516
        replace q516 := eq_true q516
        go_wp2
        repeat (go_quiet (fail); try go_wp2)
        go_ret
        exact ⟨by first | rfl | (simp; done) | (simp [*]; done), by repeat (first | exact Drawn0.refl _ | apply Drawn0.step)⟩
      ·
       rw [if_neg c6] at H
       exact nn_ H
     ·
      rw [if_neg c5] at H
      exact nn_ H
    ·
     rw [if_neg c4] at H
     have c4b0 : decide (x5_1 < (l0.length : Int)) = false := decide_eq_false c4
     clear c4
     obtain rfl := Option.some.inj H
     go_wp2
     repeat (go_quiet (fail); try go_wp2)
     go_ret
     exact ⟨by first | rfl | (simp; done) | (simp [*]; done), by repeat (first | exact Drawn0.refl _ | apply Drawn0.step)⟩
 ·
  rw [if_neg c3] at H
  have c3b0 : ((l0.length : Int) == (l1.length : Int)) = false := beq_eq_false_iff_ne.mpr c3
  have c3b1 : ((l0.length : Int) != (l1.length : Int)) = true := bne_iff_ne.mpr c3
  have c3b2 : (l0.length == l1.length) = false := by first | simpa using c3 | (simp at c3 ⊢; omega)
  obtain rfl := Option.some.inj H
  go_enter Tryd.func25, Tryd.ntmps25
  go_wp2
  repeat (go_quiet (fail); try go_wp2)
  go_ret
  exact ⟨by first | rfl | (simp; done) | (simp [*]; done), by repeat (first | exact Drawn0.refl _ | apply Drawn0.step)⟩
mutual
def spec_DoneBy.l0 : Nat → List (S41) → List (S30) → Int → List Int → Int → Option (List Int)
 | 0, _, _, _, _, _ => none
 | k + 1, x0, x1, x2, x7, x8 => if x8 < (x0.length : Int) then (spec_DoneBy.l1 k x0 x1 x2 x7 x8 0) else (some x7)
def spec_DoneBy.l1 : Nat → List (S41) → List (S30) → Int → List Int → Int → Int → Option (List Int)
 | 0, _, _, _, _, _, _ => none
 | k + 1, x0, x1, x2, x7, x8, x9 => if x9 < (x1.length : Int) then (if 0 ≤ x9 then (if ((rd_T30 x1 x9).f1) = x8 then (if (rd_T30 x1 x9).f2 = true then (if ((rd_T30 x1 x9).f0) ≤ x2 then (if x7.length < 17592186044416 then (spec_DoneBy.l1 k x0 x1 x2 (x7 ++ [x8]) x8 (wrap64 (x9 + 1))) else (none)) else (spec_DoneBy.l1 k x0 x1 x2 x7 x8 (wrap64 (x9 + 1)))) else (spec_DoneBy.l1 k x0 x1 x2 x7 x8 (wrap64 (x9 + 1)))) else (spec_DoneBy.l1 k x0 x1 x2 x7 x8 (wrap64 (x9 + 1)))) else (none)) else (spec_DoneBy.l0 k x0 x1 x2 x7 (wrap64 (x8 + 1)))
end
def spec_DoneBy.f (k : Nat) (l0 : List (S41)) (l1 : List (S30)) (a2 : Int) : Option (List Int) := (spec_validLog.f k l0 l1).bind fun t537 => (if t537 = true then (spec_DoneBy.l0 k l0 l1 a2 (([] : List Int)) 0) else (some ([] : List Int)))
set_option maxHeartbeats 8000000 in
set_option maxRecDepth 100000 in
theorem spec_DoneBy.calls (k : Nat) (A0 : Option Addr) (c0 : Nat) (l0 : List (S41)) (A1 : Option Addr) (c1 : Nat) (l1 : List (S30)) (a2 : Int) (r : List Int) (w : World) (hr0 : Kd.C k41 w A0 l0.length l0) (hc0 : l0.length ≤ c0) (hr1 : Kd.C k30 w A1 l1.length l1) (hc1 : l1.length ≤ c1) (h : spec_DoneBy.f k l0 l1 a2 = some r) :
  Calls Tryd.prog 26 #[.slice A0 l0.length c0, .slice A1 l1.length c1, .int .i64 a2] w fun e w' => ∃ v0_ : Value, e = .returned (v0_) ∧ Kd.R (Kd.int .i64) 3 w' w.heap.size (fun _ => True) v0_ r ∧ Below w.heap.size w w' := by
 have HR0 := mk0 hr0
 have HC0 := mk0 hc0
 clear hr0 hc0
 have HR1 := mk0 hr1
 have HC1 := mk0 hc1
 clear hr1 hc1
 have HB := mk0 (Below.refl w.heap.size w)
 have H : ((spec_validLog.f k l0 l1).bind fun t537 => (if t537 = true then (spec_DoneBy.l0 k l0 l1 a2 (([] : List Int)) 0) else (some ([] : List Int)))) = some r := h
 clear h
 obtain ⟨y534, hy534⟩ : ∃ y_ : List Int, y_ = (([] : List Int)) := ⟨_, rfl⟩
 replace H : ((spec_validLog.f k l0 l1).bind fun t537 => (if t537 = true then (spec_DoneBy.l0 k l0 l1 a2 y534 0) else (some ([] : List Int)))) = some r := by first | (rw [hy534]; with_reducible exact H) | (rw [hy534]; exact (Option.bind_some _ _).symm.trans H) | (rw [hy534]; exact H) | exact H
 have Ny534 := mk0 hy534
 clear hy534
 replace H := bE_ H
 obtain ⟨t537, A40, H⟩ := H
 have A4 := mk0 A40
 clear A40
 by_cases c5 : t537 = true
 ·
  subst c5
  rw [if_pos rfl] at H
  have H' := mk0 H
  clear H
  go_enter Tryd.func26, Tryd.ntmps26
  go_wp2_with (first | ((with_reducible refine gate_dst (N := 10) rfl ?_); refine Kd.R_lit (Kd.int .i64) _ 3 ?hg (N := 10) ?hd (xs := ([] : List Int)) (inner := []) (ok := fun _ => True) (okp := fun _ => True) ?hr ?hp (fun _ hk => hk) trivial (Below.refl _ _) (Nat.le_refl _) (by simp) ?_; (case hd => rfl); (case hg => rfl); (case hr => first | (go_simp; done) | (go_simp; rfl)); (case hp => exact (Reps.none _ _)); intro v535 w6 ho7 hb hg_ hnew_; clear hg_ hnew_; (first | rw [← Ny534.out] at ho7 | (simp only [Int.reduceToNat] at ho7; rw [← Ny534.out] at ho7)); have HO536 := mk0 (Kd.R_lower ho7 (below_size (by with_reducible repeat (first | exact HB.out | apply ba_ | apply bn_ | apply bd_)))); replace HB := mk0 (below_step (by with_reducible repeat (first | exact HB.out | apply ba_ | apply bn_ | apply bd_)) hb); clear hb ho7) | ((with_reducible refine gate_callee (f := 62) rfl ?_); refine goesL_ (some 13) rfl rfl Tryd.func62 (by kernel_rfl) rfl #[.slice A0 l0.length c0, .slice A1 l1.length c1] rfl (by (try simp only [List.map_toArray, List.map_cons, List.map_nil]); first | done | rfl | (simp only [List.length_drop, List.length_take]; rfl)) ?_; (with_reducible refine (spec_validLog.calls k _ _ l0 _ _ l1 true _ ?side1 ?side2 ?side3 ?side4 A4.out).mono ?_); (case side1 => repeat (first | exact (Kd.C_below HR0.out HB.out) | (with_reducible first | refine Ca_ ?_ _ | refine Cn_ ?_ _ | refine Cd_ ?_))); (case side2 => exact HC0.out); (case side3 => repeat (first | exact (Kd.C_below HR1.out HB.out) | (with_reducible first | refine Ca_ ?_ _ | refine Cn_ ?_ _ | refine Cd_ ?_))); (case side4 => exact HC1.out); rintro e w8 ⟨rfl, hb⟩; refine ⟨_, rfl, ?_⟩; replace HO536 := mk0 (Kd.R_below (by (with_reducible repeat (first | apply Ra_ | apply Rn_ | apply Rd_)); exact HO536.out) hb); replace HB := mk0 (below_step (by with_reducible repeat (first | exact HB.out | apply ba_ | apply bn_ | apply bd_)) hb); clear hb))
  go_loopg [7, 8] k (fun kq v7 v8 w' => ∃ (x7_1 : List Int) (x8_1 : Int), v8 = .int .i64 x8_1 ∧ Aside0 (spec_DoneBy.l0 kq l0 l1 a2 x7_1 x8_1 = some r) ∧ Aside0 (kq ≤ k) ∧ Aside0 (Kd.R (Kd.int .i64) 3 w' w.heap.size (fun _ => True) v7 x7_1) ∧ Aside0 (Below w.heap.size w w'))
  case atStart => exact ⟨(y534), (0), (by first | rfl | (simp; done) | (simp [*]; done)), H', ⟨Nat.le_refl _⟩, ⟨by (with_reducible repeat (first | apply Ra_ | apply Rn_ | apply Rd_)); exact HO536.out⟩, ⟨by with_reducible repeat (first | exact HB.out | apply ba_ | apply bn_ | apply bd_)⟩⟩
  case round =>
   clear H'
   try clear c1
   try clear c2
   try clear p2
   try clear c5
   try clear c6
   obtain ⟨x7_1, x8_1, rfl, HA, HK1, HO_7, HB⟩ := hrel
   cases gk with
   | zero => exact absurd HA.out (by simp [spec_DoneBy.l0])
   | succ k1 =>
    have H := HA.out
    clear HA
    simp only [spec_DoneBy.l0] at H
    by_cases c9 : x8_1 < (l0.length : Int)
    ·
     rw [if_pos c9] at H
     have c9b0 : decide (x8_1 < (l0.length : Int)) = true := decide_eq_true c9
     clear c9
     have H' := mk0 H
     clear H
     go_wp2
     go_loopg [7, 9] k1 (fun kq v7 v9 w' => ∃ (x7_2 : List Int) (x9_2 : Int), v9 = .int .i64 x9_2 ∧ Aside0 (spec_DoneBy.l1 kq l0 l1 a2 x7_2 x8_1 x9_2 = some r) ∧ Aside0 (kq ≤ k1) ∧ Aside0 (Kd.R (Kd.int .i64) 3 w' w.heap.size (fun _ => True) v7 x7_2) ∧ Aside0 (Below w.heap.size w w'))
     case atStart => exact ⟨(x7_1), (0), (by first | rfl | (simp; done) | (simp [*]; done)), H', ⟨Nat.le_refl _⟩, ⟨by (with_reducible repeat (first | apply Ra_ | apply Rn_ | apply Rd_)); exact HO_7.out⟩, ⟨by with_reducible repeat (first | exact HB.out | apply ba_ | apply bn_ | apply bd_)⟩⟩
     case round =>
      clear H'
      try clear c1
      try clear c2
      try clear p2
      try clear c5
      try clear c6
      try clear c9
      try clear c9b0
      try clear p2
      obtain ⟨x7_2, x9_2, rfl, HA, HK2, HO_7, HB⟩ := hrel
      cases gk with
      | zero => exact absurd HA.out (by simp [spec_DoneBy.l1])
      | succ k2 =>
       have H := HA.out
       clear HA
       simp only [spec_DoneBy.l1] at H
       by_cases c10 : x9_2 < (l1.length : Int)
       ·
        rw [if_pos c10] at H
        have c10b0 : decide (x9_2 < (l1.length : Int)) = true := decide_eq_true c10
        clear c10
        by_cases c11 : 0 ≤ x9_2
        ·
         rw [if_pos c11] at H
         have c11b0 : decide (0 ≤ x9_2) = true := decide_eq_true c11
         clear c11
         by_cases c12 : ((rd_T30 l1 x9_2).f1) = x8_1
         ·
          rw [if_pos c12] at H
          have c12b0 : (((rd_T30 l1 x9_2).f1) == x8_1) = true := beq_iff_eq.mpr c12
          have c12b1 : (((rd_T30 l1 x9_2).f1) != x8_1) = false := bne_eq_false_iff_eq.mpr c12
          clear c12
          obtain ⟨bq13, hbq13⟩ : ∃ b_ : Bool, b_ = ((rd_T30 l1 x9_2).f2) := ⟨_, rfl⟩
          replace H : (if bq13 = true then (if ((rd_T30 l1 x9_2).f0) ≤ a2 then (if x7_2.length < 17592186044416 then (spec_DoneBy.l1 k2 l0 l1 a2 (x7_2 ++ [x8_1]) x8_1 (wrap64 (x9_2 + 1))) else (none)) else (spec_DoneBy.l1 k2 l0 l1 a2 x7_2 x8_1 (wrap64 (x9_2 + 1)))) else (spec_DoneBy.l1 k2 l0 l1 a2 x7_2 x8_1 (wrap64 (x9_2 + 1)))) = some r := by rw [← hbq13] at H; exact H
          have Nbq13 := mk0 hbq13
          clear hbq13
          by_cases c14 : bq13 = true
          ·
           subst c14
           rw [if_pos rfl] at H
           by_cases c15 : ((rd_T30 l1 x9_2).f0) ≤ a2
           ·
            rw [if_pos c15] at H
            have c15b0 : decide (((rd_T30 l1 x9_2).f0) ≤ a2) = true := decide_eq_true c15
            clear c15
            by_cases c16 : x7_2.length < 17592186044416
            ·
             rw [if_pos c16] at H
             have LMc16 := mk0 c16
             clear c16
             obtain ⟨y541, hy541⟩ : ∃ y_ : List Int, y_ = (x7_2 ++ [x8_1]) := ⟨_, rfl⟩
             replace H : (spec_DoneBy.l1 k2 l0 l1 a2 y541 x8_1 (wrap64 (x9_2 + 1))) = some r := by first | (rw [hy541]; with_reducible exact H) | (rw [hy541]; exact (Option.bind_some _ _).symm.trans H) | (rw [hy541]; exact H) | exact H
             have Ny541 := mk0 hy541
             clear hy541
             have H' := mk0 H
             clear H
             have p538 : 0 ≤ (x9_2 : Int) := od_ (by with_reducible assumption)
             have q538 : x9_2 < (l1.length : Int) := od_ (by with_reducible assumption)
             obtain ⟨ad538, e538, hx538_0, hx538_1, hx538_2⟩ := at_T30 HR1.out x9_2 p538 q538
             (try rw [← Nbq13.out] at hx538_2)
             cases e538
             replace hx538_0 := (HB.out.cell (World.block_lt_of_cell? w _ hx538_0)).trans hx538_0
             replace hx538_1 := (HB.out.cell (World.block_lt_of_cell? w _ hx538_1)).trans hx538_1
             replace hx538_2 := (HB.out.cell (World.block_lt_of_cell? w _ hx538_2)).trans hx538_2
             replace p538 := eq_true p538
             replace q538 := eq_true q538
             have p539 : 0 ≤ (x9_2 : Int) := od_ (by with_reducible assumption)
             have q539 : x9_2 < (l1.length : Int) := od_ (by with_reducible assumption)
             obtain ⟨ad539, e539, hx539_0, hx539_1, hx539_2⟩ := at_T30 HR1.out x9_2 p539 q539
             (try rw [← Nbq13.out] at hx539_2)
             obtain rfl : ad538 = ad539 := (by injection e539)
             replace hx539_0 := (HB.out.cell (World.block_lt_of_cell? w _ hx539_0)).trans hx539_0
             replace hx539_1 := (HB.out.cell (World.block_lt_of_cell? w _ hx539_1)).trans hx539_1
             replace hx539_2 := (HB.out.cell (World.block_lt_of_cell? w _ hx539_2)).trans hx539_2
             replace p539 := eq_true p539
             replace q539 := eq_true q539
             have p540 : 0 ≤ (x9_2 : Int) := od_ (by with_reducible assumption)
             have q540 : x9_2 < (l1.length : Int) := od_ (by with_reducible assumption)
             obtain ⟨ad540, e540, hx540_0, hx540_1, hx540_2⟩ := at_T30 HR1.out x9_2 p540 q540
             (try rw [← Nbq13.out] at hx540_2)
             obtain rfl : ad538 = ad540 := (by injection e540)
             replace hx540_0 := (HB.out.cell (World.block_lt_of_cell? w _ hx540_0)).trans hx540_0
             replace hx540_1 := (HB.out.cell (World.block_lt_of_cell? w _ hx540_1)).trans hx540_1
             replace hx540_2 := (HB.out.cell (World.block_lt_of_cell? w _ hx540_2)).trans hx540_2
             replace p540 := eq_true p540
             replace q540 := eq_true q540
             go_wp2_with (first | ((with_reducible refine gate_builtin (b := .append) (xs := #[.tmp 50, .tmp 52]) rfl ?_); at_builtin; refine Kd.R_append (Kd.int .i64) (w0 := w) w.heap.size rfl (.tmp 50) (.tmp 52) 23 3 (.int .i64 0) 8 rfl Tryd.underlying23 info3 rfl (by decide) (by omega) u7 x7_2 x8_1 [.int .i64 x8_1] (fun _ => True) (fun _ => False) rfl rfl ?aP (fun _ hk => hk.elim) ?aF ?aO ?aB ?aS ?aL ?_; (case aP => exact rfl); (case aB => exact (by with_reducible repeat (first | exact HB.out | apply ba_ | apply bn_ | apply bd_))); (case aF => exact (fun _ _ => trivial)); (case aO => exact (by (with_reducible repeat (first | apply Ra_ | apply Rn_ | apply Rd_)); exact HO_7.out)); (case aS => exact (below_size (by with_reducible repeat (first | exact HB.out | apply ba_ | apply bn_ | apply bd_)))); (case aL => have := LMc16.out; omega); intro v542 w17 ho hb hg hat; rw [← Ny541.out] at ho; replace HB := mk0 (hb); have HO543 := mk0 (ho); clear HO_7; clear ho hb hg hat))
             go_roundg k2
             case measure => have := HK1.out; have := HK2.out; omega
             case rel => exact ⟨(y541), (wrap64 (x9_2 + 1)), (by first | rfl | (simp; done) | (simp [*]; done)), H', ⟨by have := HK1.out; have := HK2.out; omega⟩, ⟨by (with_reducible repeat (first | apply Ra_ | apply Rn_ | apply Rd_)); exact HO543.out⟩, ⟨by with_reducible repeat (first | exact HB.out | apply ba_ | apply bn_ | apply bd_)⟩⟩
            ·
             rw [if_neg c16] at H
             exact nn_ H
           ·
            rw [if_neg c15] at H
            have c15b0 : decide (((rd_T30 l1 x9_2).f0) ≤ a2) = false := decide_eq_false c15
            clear c15
            have H' := mk0 H
            clear H
            have p538 : 0 ≤ (x9_2 : Int) := od_ (by with_reducible assumption)
            have q538 : x9_2 < (l1.length : Int) := od_ (by with_reducible assumption)
            obtain ⟨ad538, e538, hx538_0, hx538_1, hx538_2⟩ := at_T30 HR1.out x9_2 p538 q538
            (try rw [← Nbq13.out] at hx538_2)
            cases e538
            replace hx538_0 := (HB.out.cell (World.block_lt_of_cell? w _ hx538_0)).trans hx538_0
            replace hx538_1 := (HB.out.cell (World.block_lt_of_cell? w _ hx538_1)).trans hx538_1
            replace hx538_2 := (HB.out.cell (World.block_lt_of_cell? w _ hx538_2)).trans hx538_2
            replace p538 := eq_true p538
            replace q538 := eq_true q538
            have p539 : 0 ≤ (x9_2 : Int) := od_ (by with_reducible assumption)
            have q539 : x9_2 < (l1.length : Int) := od_ (by with_reducible assumption)
            obtain ⟨ad539, e539, hx539_0, hx539_1, hx539_2⟩ := at_T30 HR1.out x9_2 p539 q539
            (try rw [← Nbq13.out] at hx539_2)
            obtain rfl : ad538 = ad539 := (by injection e539)
            replace hx539_0 := (HB.out.cell (World.block_lt_of_cell? w _ hx539_0)).trans hx539_0
            replace hx539_1 := (HB.out.cell (World.block_lt_of_cell? w _ hx539_1)).trans hx539_1
            replace hx539_2 := (HB.out.cell (World.block_lt_of_cell? w _ hx539_2)).trans hx539_2
            replace p539 := eq_true p539
            replace q539 := eq_true q539
            have p540 : 0 ≤ (x9_2 : Int) := od_ (by with_reducible assumption)
            have q540 : x9_2 < (l1.length : Int) := od_ (by with_reducible assumption)
            obtain ⟨ad540, e540, hx540_0, hx540_1, hx540_2⟩ := at_T30 HR1.out x9_2 p540 q540
            (try rw [← Nbq13.out] at hx540_2)
            obtain rfl : ad538 = ad540 := (by injection e540)
            replace hx540_0 := (HB.out.cell (World.block_lt_of_cell? w _ hx540_0)).trans hx540_0
            replace hx540_1 := (HB.out.cell (World.block_lt_of_cell? w _ hx540_1)).trans hx540_1
            replace hx540_2 := (HB.out.cell (World.block_lt_of_cell? w _ hx540_2)).trans hx540_2
            replace p540 := eq_true p540
            replace q540 := eq_true q540
            go_wp2
            go_roundg k2
            case measure => have := HK1.out; have := HK2.out; omega
            case rel => exact ⟨(x7_2), (wrap64 (x9_2 + 1)), (by first | rfl | (simp; done) | (simp [*]; done)), H', ⟨by have := HK1.out; have := HK2.out; omega⟩, ⟨by (with_reducible repeat (first | apply Ra_ | apply Rn_ | apply Rd_)); exact HO_7.out⟩, ⟨by with_reducible repeat (first | exact HB.out | apply ba_ | apply bn_ | apply bd_)⟩⟩
          ·
           replace c14 := Bool.eq_false_iff.mpr c14
           subst c14
           rw [if_neg (show ¬ (false = true) by decide)] at H
           have H' := mk0 H
           clear H
           have p538 : 0 ≤ (x9_2 : Int) := od_ (by with_reducible assumption)
           have q538 : x9_2 < (l1.length : Int) := od_ (by with_reducible assumption)
           obtain ⟨ad538, e538, hx538_0, hx538_1, hx538_2⟩ := at_T30 HR1.out x9_2 p538 q538
           (try rw [← Nbq13.out] at hx538_2)
           cases e538
           replace hx538_0 := (HB.out.cell (World.block_lt_of_cell? w _ hx538_0)).trans hx538_0
           replace hx538_1 := (HB.out.cell (World.block_lt_of_cell? w _ hx538_1)).trans hx538_1
           replace hx538_2 := (HB.out.cell (World.block_lt_of_cell? w _ hx538_2)).trans hx538_2
           replace p538 := eq_true p538
           replace q538 := eq_true q538
           have p539 : 0 ≤ (x9_2 : Int) := od_ (by with_reducible assumption)
           have q539 : x9_2 < (l1.length : Int) := od_ (by with_reducible assumption)
           obtain ⟨ad539, e539, hx539_0, hx539_1, hx539_2⟩ := at_T30 HR1.out x9_2 p539 q539
           (try rw [← Nbq13.out] at hx539_2)
           obtain rfl : ad538 = ad539 := (by injection e539)
           replace hx539_0 := (HB.out.cell (World.block_lt_of_cell? w _ hx539_0)).trans hx539_0
           replace hx539_1 := (HB.out.cell (World.block_lt_of_cell? w _ hx539_1)).trans hx539_1
           replace hx539_2 := (HB.out.cell (World.block_lt_of_cell? w _ hx539_2)).trans hx539_2
           replace p539 := eq_true p539
           replace q539 := eq_true q539
           go_wp2
           go_roundg k2
           case measure => have := HK1.out; have := HK2.out; omega
           case rel => exact ⟨(x7_2), (wrap64 (x9_2 + 1)), (by first | rfl | (simp; done) | (simp [*]; done)), H', ⟨by have := HK1.out; have := HK2.out; omega⟩, ⟨by (with_reducible repeat (first | apply Ra_ | apply Rn_ | apply Rd_)); exact HO_7.out⟩, ⟨by with_reducible repeat (first | exact HB.out | apply ba_ | apply bn_ | apply bd_)⟩⟩
         ·
          rw [if_neg c12] at H
          have c12b0 : (((rd_T30 l1 x9_2).f1) == x8_1) = false := beq_eq_false_iff_ne.mpr c12
          have c12b1 : (((rd_T30 l1 x9_2).f1) != x8_1) = true := bne_iff_ne.mpr c12
          have H' := mk0 H
          clear H
          have p538 : 0 ≤ (x9_2 : Int) := od_ (by with_reducible assumption)
          have q538 : x9_2 < (l1.length : Int) := od_ (by with_reducible assumption)
          obtain ⟨ad538, e538, hx538_0, hx538_1, hx538_2⟩ := at_T30 HR1.out x9_2 p538 q538
          cases e538
          replace hx538_0 := (HB.out.cell (World.block_lt_of_cell? w _ hx538_0)).trans hx538_0
          replace hx538_1 := (HB.out.cell (World.block_lt_of_cell? w _ hx538_1)).trans hx538_1
          replace hx538_2 := (HB.out.cell (World.block_lt_of_cell? w _ hx538_2)).trans hx538_2
          replace p538 := eq_true p538
          replace q538 := eq_true q538
          go_wp2
          go_roundg k2
          case measure => have := HK1.out; have := HK2.out; omega
          case rel => exact ⟨(x7_2), (wrap64 (x9_2 + 1)), (by first | rfl | (simp; done) | (simp [*]; done)), H', ⟨by have := HK1.out; have := HK2.out; omega⟩, ⟨by (with_reducible repeat (first | apply Ra_ | apply Rn_ | apply Rd_)); exact HO_7.out⟩, ⟨by with_reducible repeat (first | exact HB.out | apply ba_ | apply bn_ | apply bd_)⟩⟩
        ·
         rw [if_neg c11] at H
         exact nn_ H
       ·
        rw [if_neg c10] at H
        have c10b0 : decide (x9_2 < (l1.length : Int)) = false := decide_eq_false c10
        clear c10
        have H' := mk0 H
        clear H
        go_wp2
        go_roundg k2
        case measure => have := HK1.out; have := HK2.out; omega
        case rel => exact ⟨(x7_2), (wrap64 (x8_1 + 1)), (by first | rfl | (simp; done) | (simp [*]; done)), H', ⟨by have := HK1.out; have := HK2.out; omega⟩, ⟨by (with_reducible repeat (first | apply Ra_ | apply Rn_ | apply Rd_)); exact HO_7.out⟩, ⟨by with_reducible repeat (first | exact HB.out | apply ba_ | apply bn_ | apply bd_)⟩⟩
    ·
     rw [if_neg c9] at H
     have c9b0 : decide (x8_1 < (l0.length : Int)) = false := decide_eq_false c9
     clear c9
     obtain rfl := Option.some.inj H
     go_wp2
     go_ret
     exact ⟨_, by first | rfl | (simp [errW_none, errW_some] <;> rfl) | (simp [*, errW_none, errW_some] <;> rfl), by (with_reducible repeat (first | apply Ra_ | apply Rn_ | apply Rd_)); exact HO_7.out, by with_reducible repeat (first | exact HB.out | apply ba_ | apply bn_ | apply bd_)⟩
 ·
  replace c5 := Bool.eq_false_iff.mpr c5
  subst c5
  rw [if_neg (show ¬ (false = true) by decide)] at H
  obtain rfl := Option.some.inj H
  go_enter Tryd.func26, Tryd.ntmps26
  go_wp2_with (first | ((with_reducible refine gate_dst (N := 10) rfl ?_); refine Kd.R_lit (Kd.int .i64) _ 3 ?hg (N := 10) ?hd (xs := ([] : List Int)) (inner := []) (ok := fun _ => True) (okp := fun _ => True) ?hr ?hp (fun _ hk => hk) trivial (Below.refl _ _) (Nat.le_refl _) (by simp) ?_; (case hd => rfl); (case hg => rfl); (case hr => first | (go_simp; done) | (go_simp; rfl)); (case hp => exact (Reps.none _ _)); intro v535 w18 ho19 hb hg_ hnew_; clear hg_ hnew_; (first | rw [← Ny534.out] at ho19 | (simp only [Int.reduceToNat] at ho19; rw [← Ny534.out] at ho19)); have HO536 := mk0 (Kd.R_lower ho19 (below_size (by with_reducible repeat (first | exact HB.out | apply ba_ | apply bn_ | apply bd_)))); replace HB := mk0 (below_step (by with_reducible repeat (first | exact HB.out | apply ba_ | apply bn_ | apply bd_)) hb); clear hb ho19) | ((with_reducible refine gate_callee (f := 62) rfl ?_); refine goesL_ (some 13) rfl rfl Tryd.func62 (by kernel_rfl) rfl #[.slice A0 l0.length c0, .slice A1 l1.length c1] rfl (by (try simp only [List.map_toArray, List.map_cons, List.map_nil]); first | done | rfl | (simp only [List.length_drop, List.length_take]; rfl)) ?_; (with_reducible refine (spec_validLog.calls k _ _ l0 _ _ l1 false _ ?side1 ?side2 ?side3 ?side4 A4.out).mono ?_); (case side1 => repeat (first | exact (Kd.C_below HR0.out HB.out) | (with_reducible first | refine Ca_ ?_ _ | refine Cn_ ?_ _ | refine Cd_ ?_))); (case side2 => exact HC0.out); (case side3 => repeat (first | exact (Kd.C_below HR1.out HB.out) | (with_reducible first | refine Ca_ ?_ _ | refine Cn_ ?_ _ | refine Cd_ ?_))); (case side4 => exact HC1.out); rintro e w20 ⟨rfl, hb⟩; refine ⟨_, rfl, ?_⟩; replace HO536 := mk0 (Kd.R_below (by (with_reducible repeat (first | apply Ra_ | apply Rn_ | apply Rd_)); exact HO536.out) hb); replace HB := mk0 (below_step (by with_reducible repeat (first | exact HB.out | apply ba_ | apply bn_ | apply bd_)) hb); clear hb))
  go_ret
  exact ⟨_, by first | rfl | (simp [errW_none, errW_some] <;> rfl) | (simp [*, errW_none, errW_some] <;> rfl), by first | exact Kd.R_nil _ _ _ _ _ | exact Kd.N_nil _ _ _ _ _ | exact Kd.V_nil _ _ _ _ _ | exact Kd.Q_nil _ _ _ _ _ | exact Kd.S_nil _ _ _ _ _, by with_reducible repeat (first | exact HB.out | apply ba_ | apply bn_ | apply bd_)⟩
def laws_isIn.l0 : Nat → List Int → Int → Int → Option (Bool)
 | 0, _, _, _ => none
 | k + 1, x0, x1, x5 => if x5 < (x0.length : Int) then (if 0 ≤ x5 then (if (rd x0 x5) = x1 then (some true) else (laws_isIn.l0 k x0 x1 (wrap64 (x5 + 1)))) else (none)) else (some false)
def laws_isIn.f (k : Nat) (l0 : List Int) (a1 : Int) : Option (Bool) := laws_isIn.l0 k l0 a1 0
set_option maxHeartbeats 8000000 in
set_option maxRecDepth 100000 in
theorem laws_isIn.calls (k : Nat) (A0 : Option Addr) (c0 : Nat) (l0 : List Int) (a1 : Int) (r : Bool) (w : World) (hr0 : Kd.C (Kd.int .i64) w A0 l0.length l0) (hc0 : l0.length ≤ c0) (h : laws_isIn.f k l0 a1 = some r) :
  Calls Tryd.prog 28 #[.slice A0 l0.length c0, .int .i64 a1] w fun e w' => e = .returned (.bool r) ∧ Drawn0 w w' := by
 have HR0 := mk0 hr0
 have HC0 := mk0 hc0
 clear hr0 hc0
 have H : (laws_isIn.l0 k l0 a1 0) = some r := h
 clear h
 have H' := mk0 H
 clear H
 go_enter Tryd.func28, Tryd.ntmps28
 go_wp2
 go_loopg [5] k (fun kq v5 w' => ∃ (x5_1 : Int), v5 = .int .i64 x5_1 ∧ Aside0 (laws_isIn.l0 kq l0 a1 x5_1 = some r) ∧ Aside0 (kq ≤ k) ∧ Drawn0 w w')
 case atStart => exact ⟨(0), (by first | rfl | (simp; done) | (simp [*]; done)), H', ⟨Nat.le_refl _⟩, by repeat (first | exact Drawn0.refl _ | apply Drawn0.step)⟩
 case round =>
  clear H'
  try clear c2
  try clear p2
  obtain ⟨x5_1, rfl, HA, HK1, ⟨m1, rfl⟩⟩ := hrel
  cases gk with
  | zero => exact absurd HA.out (by simp [laws_isIn.l0])
  | succ k1 =>
   have H := HA.out
   clear HA
   simp only [laws_isIn.l0] at H
   by_cases c3 : x5_1 < (l0.length : Int)
   ·
    rw [if_pos c3] at H
    have c3b0 : decide (x5_1 < (l0.length : Int)) = true := decide_eq_true c3
    clear c3
    by_cases c4 : 0 ≤ x5_1
    ·
     rw [if_pos c4] at H
     have c4b0 : decide (0 ≤ x5_1) = true := decide_eq_true c4
     clear c4
     by_cases c5 : (rd l0 x5_1) = a1
     ·
      rw [if_pos c5] at H
      have c5b0 : ((rd l0 x5_1) == a1) = true := beq_iff_eq.mpr c5
      have c5b1 : ((rd l0 x5_1) != a1) = false := bne_eq_false_iff_eq.mpr c5
      clear c5
      obtain rfl := Option.some.inj H
      have p545 : 0 ≤ (x5_1 : Int) := od_ (by with_reducible assumption)
      have q545 : x5_1 < (l0.length : Int) := od_ (by with_reducible assumption)
      obtain ⟨ad545, e545, hx545_0⟩ := Kd.at_int HR0.out x5_1 p545 q545
      cases e545
      replace p545 := eq_true p545
      replace q545 := eq_true q545
      go_wp2
      go_ret
      exact ⟨by first | rfl | (simp; done) | (simp [*]; done), by repeat (first | exact Drawn0.refl _ | apply Drawn0.step)⟩
     ·
      rw [if_neg c5] at H
      have c5b0 : ((rd l0 x5_1) == a1) = false := beq_eq_false_iff_ne.mpr c5
      have c5b1 : ((rd l0 x5_1) != a1) = true := bne_iff_ne.mpr c5
      have H' := mk0 H
      clear H
      have p545 : 0 ≤ (x5_1 : Int) := od_ (by with_reducible assumption)
      have q545 : x5_1 < (l0.length : Int) := od_ (by with_reducible assumption)
      obtain ⟨ad545, e545, hx545_0⟩ := Kd.at_int HR0.out x5_1 p545 q545
      cases e545
      replace p545 := eq_true p545
      replace q545 := eq_true q545
      go_wp2
      go_roundg k1
      case measure => have := HK1.out; omega
      case rel => exact ⟨(wrap64 (x5_1 + 1)), (by first | rfl | (simp; done) | (simp [*]; done)), H', ⟨by have := HK1.out; omega⟩, by repeat (first | exact Drawn0.refl _ | apply Drawn0.step)⟩
    ·
     rw [if_neg c4] at H
     exact nn_ H
   ·
    rw [if_neg c3] at H
    have c3b0 : decide (x5_1 < (l0.length : Int)) = false := decide_eq_false c3
    clear c3
    obtain rfl := Option.some.inj H
    go_wp2
    go_ret
    exact ⟨by first | rfl | (simp; done) | (simp [*]; done), by repeat (first | exact Drawn0.refl _ | apply Drawn0.step)⟩
mutual
def laws_FnDoneBy.j0 : Nat → List (S41) → List (S30) → Int → List Int → Bool → Option (Bool)
 | 0, _, _, _, _, _ => none
 | k + 1, x3, x4, x5, x6, x34 => if x34 = true then ((spec_DoneBy.f k x3 x4 x5).bind fun t562 => ((laws_equalInts.f k x6 t562).bind fun t565 => (some t565))) else ((impl_DoneBy.f k x3 x4 (wrap64 (x5 + 1))).bind fun t566 => (laws_FnDoneBy.l0 k x3 x4 x6 t566 0))
def laws_FnDoneBy.l0 : Nat → List (S41) → List (S30) → List Int → List Int → Int → Option (Bool)
 | 0, _, _, _, _, _ => none
 | k + 1, x3, x4, x6, x7, x8 => if x8 < (x6.length : Int) then (if 0 ≤ x8 then ((laws_isIn.f k x7 (rd x6 x8)).bind fun t570 => (if t570 = true then (laws_FnDoneBy.l0 k x3 x4 x6 x7 (wrap64 (x8 + 1))) else (some false))) else (none)) else ((impl_ValidDone.f k x3 x6).bind fun t571 => (if t571 = true then ((impl_DoneBy.f k x3 x4 (-1)).bind fun t572 => (some ((t572.length : Int) == 0))) else (some false)))
end
def laws_FnDoneBy.f (k : Nat) (l0 : List Int) : Option (Bool) := if (l0.length : Int) > 1048576 then (some true) else ((spec_DrawDoneBy.f k l0).bind fun bt547 => ((impl_DoneBy.f k bt547.1 bt547.2.1 bt547.2.2).bind fun t554 => ((spec_DoneBy.f k bt547.1 bt547.2.1 bt547.2.2).bind fun t557 => ((laws_equalInts.f k t554 t557).bind fun t560 => (if t560 = true then ((impl_ValidLog.f k bt547.1 bt547.2.1).bind fun t561 => (laws_FnDoneBy.j0 k bt547.1 bt547.2.1 bt547.2.2 t554 (!t561))) else (laws_FnDoneBy.j0 k bt547.1 bt547.2.1 bt547.2.2 t554 true))))))
set_option maxHeartbeats 8000000 in
set_option maxRecDepth 100000 in
theorem laws_FnDoneBy.calls (k : Nat) (A0 : Option Addr) (c0 : Nat) (l0 : List Int) (r : Bool) (w : World) (hT : Tab w) (hr0 : Kd.C (Kd.int .u8) w A0 l0.length l0) (hc0 : l0.length ≤ c0) (h : laws_FnDoneBy.f k l0 = some r) :
  Calls Tryd.prog 6 #[.slice A0 l0.length c0] w fun e w' => e = .returned (.bool r) ∧ Below w.heap.size w w' := by
 have HT := mk0 hT
 clear hT
 have HR0 := mk0 hr0
 have HC0 := mk0 hc0
 clear hr0 hc0
 have HB := mk0 (Below.refl w.heap.size w)
 have H : (if (l0.length : Int) > 1048576 then (some true) else ((spec_DrawDoneBy.f k l0).bind fun bt547 => ((impl_DoneBy.f k bt547.1 bt547.2.1 bt547.2.2).bind fun t554 => ((spec_DoneBy.f k bt547.1 bt547.2.1 bt547.2.2).bind fun t557 => ((laws_equalInts.f k t554 t557).bind fun t560 => (if t560 = true then ((impl_ValidLog.f k bt547.1 bt547.2.1).bind fun t561 => (laws_FnDoneBy.j0 k bt547.1 bt547.2.1 bt547.2.2 t554 (!t561))) else (laws_FnDoneBy.j0 k bt547.1 bt547.2.1 bt547.2.2 t554 true))))))) = some r := h
 clear h
 by_cases c2 : (l0.length : Int) > 1048576
 ·
  rw [if_pos c2] at H
  have c2b0 : decide (1048576 < (l0.length : Int)) = true := decide_eq_true c2
  have c2b1 : decide (1048576 < l0.length) = true := decide_eq_true (by omega)
  clear c2
  obtain rfl := Option.some.inj H
  go_enter Tryd.func6, Tryd.ntmps6
  go_wp2
  go_ret
  exact ⟨by first | rfl | (simp [errW_none, errW_some] <;> rfl) | (simp [*, errW_none, errW_some] <;> rfl), by with_reducible repeat (first | exact HB.out | apply ba_ | apply bn_ | apply bd_)⟩
 ·
  rw [if_neg c2] at H
  have c2b0 : decide (1048576 < (l0.length : Int)) = false := decide_eq_false c2
  have c2b1 : decide (1048576 < l0.length) = false := decide_eq_false (by omega)
  clear c2
  replace H := bE_ H
  obtain ⟨⟨t547, t550, t553⟩, A30, H⟩ := H
  have A3 := mk0 A30
  clear A30
  replace H := bE_ H
  obtain ⟨t554, A40, H⟩ := H
  have A4 := mk0 A40
  clear A40
  have HC5 := mk0 H
  clear H
  go_enter Tryd.func6, Tryd.ntmps6
  go_upto_region 5 with (first | ((with_reducible refine gate_callee (f := 23) rfl ?_); refine goesL_ (some 14) rfl rfl Tryd.func23 (by kernel_rfl) rfl #[.slice A0 l0.length c0] rfl (by (try simp only [List.map_toArray, List.map_cons, List.map_nil]); first | done | rfl | (simp only [List.length_drop, List.length_take]; rfl)) ?_; (with_reducible refine (spec_DrawDoneBy.calls k _ _ l0 t547 t550 t553 _ ?side1 ?side2 A3.out).mono ?_); (case side1 => repeat (first | exact HR0.out | (with_reducible first | refine Ca_ ?_ _ | refine Cn_ ?_ _ | refine Cd_ ?_))); (case side2 => exact HC0.out); rintro e w6 ⟨v548, v551, rfl, ho0, ho1, hb⟩; refine ⟨_, rfl, ?_⟩; have HO549 := mk0 (Kd.N_lower (Kd.N_mono (ok' := fun k_ => some k_ ≠ (v551 : Value).ownBlock) ho0 (fun k_ hk_ => hk_.2)) (below_size (by with_reducible repeat (first | exact HB.out | apply ba_ | apply bn_ | apply bd_)))); have HO552 := mk0 (Kd.R_lower (Kd.R_mono (ok' := fun k_ => True) ho1 (fun _ hk_ => trivial)) (below_size (by with_reducible repeat (first | exact HB.out | apply ba_ | apply bn_ | apply bd_)))); replace HB := mk0 (below_step (by with_reducible repeat (first | exact HB.out | apply ba_ | apply bn_ | apply bd_)) hb); clear hb ho0 ho1; obtain ⟨Ao7, co7, eo7⟩ := Kd.N_slice HO549.out; subst eo7; obtain ⟨Ao8, co8, eo8⟩ := Kd.R_slice HO552.out; subst eo8) | ((with_reducible refine gate_callee (f := 24) rfl ?_); refine goesL_ (some 21) rfl rfl Tryd.func24 (by kernel_rfl) rfl #[.slice Ao7 t547.length co7, .slice Ao8 t550.length co8, .int .i64 t553] rfl (by (try simp only [List.map_toArray, List.map_cons, List.map_nil]); first | done | rfl | (simp only [List.length_drop, List.length_take]; rfl)) ?_; (with_reducible refine (impl_DoneBy.calls k _ _ t547 _ _ t550 t553 t554 _ ?side1 ?side2 ?side3 ?side4 ?side99 A4.out).mono ?_); (case side99 => exact Tab.keep HT.out HT.out.lt (by with_reducible repeat (first | exact HB.out | apply ba_ | apply bn_ | apply bd_))); (case side1 => repeat (first | exact (Kd.N_reads' HO549.out).2.2 | (with_reducible first | refine Ca_ ?_ _ | refine Cn_ ?_ _ | refine Cd_ ?_))); (case side2 => exact (Kd.N_reads' HO549.out).2.1); (case side3 => repeat (first | exact (Kd.R_reads' HO552.out).2.2 | (with_reducible first | refine Ca_ ?_ _ | refine Cn_ ?_ _ | refine Cd_ ?_))); (case side4 => exact (Kd.R_reads' HO552.out).2.1); rintro e w9 ⟨v555, rfl, ho0, hb⟩; refine ⟨_, rfl, ?_⟩; replace HO549 := mk0 (Kd.N_elder' (by (with_reducible repeat (first | apply Na_ | apply Nn_ | apply Nd_)); exact HO549.out) (Kd.R_base ho0) hb); replace HO552 := mk0 (Kd.R_below (by (with_reducible repeat (first | apply Ra_ | apply Rn_ | apply Rd_)); exact HO552.out) hb); have HO556 := mk0 (Kd.R_lower ho0 (below_size (by with_reducible repeat (first | exact HB.out | apply ba_ | apply bn_ | apply bd_)))); replace HB := mk0 (below_step (by with_reducible repeat (first | exact HB.out | apply ba_ | apply bn_ | apply bd_)) hb); clear hb ho0))
  (try simp only [Act.put, List.setIfInBounds_toArray, List.set_cons_zero, List.set_cons_succ])
  go_cut [34] (fun v34 wc => ∃ (kq : Nat) (x34_4 : Bool), v34 = .bool x34_4 ∧ Aside0 (laws_FnDoneBy.j0 kq t547 t550 t553 t554 x34_4 = some r) ∧ Aside0 (kq ≤ k) ∧ Aside0 (Kd.N k41 58 wc w.heap.size (fun k_ => some k_ ≠ ((.slice Ao8 t550.length co8) : Value).ownBlock ∧ some k_ ≠ (v555 : Value).ownBlock) (.slice Ao7 t547.length co7) t547) ∧ Aside0 (Kd.R k30 75 wc w.heap.size (fun _ => True) (.slice Ao8 t550.length co8) t550) ∧ Aside0 (Kd.R (Kd.int .i64) 3 wc w.heap.size (fun _ => True) v555 t554) ∧ Aside0 (Below w.heap.size w wc))
  case first =>
   have H := HC5.out
   clear HC5
   replace H := bE_ H
   obtain ⟨t557, A100, H⟩ := H
   have A10 := mk0 A100
   clear A100
   replace H := bE_ H
   obtain ⟨t560, A110, H⟩ := H
   have A11 := mk0 A110
   clear A110
   by_cases c12 : t560 = true
   ·
    subst c12
    rw [if_pos rfl] at H
    replace H := bE_ H
    obtain ⟨t561, A130, H⟩ := H
    have A13 := mk0 A130
    clear A130
    have H' := mk0 H
    clear H
    go_wp2_with (first | ((with_reducible refine gate_callee (f := 26) rfl ?_); refine goesL_ (some 26) rfl rfl Tryd.func26 (by kernel_rfl) rfl #[.slice Ao7 t547.length co7, .slice Ao8 t550.length co8, .int .i64 t553] rfl (by (try simp only [List.map_toArray, List.map_cons, List.map_nil]); first | done | rfl | (simp only [List.length_drop, List.length_take]; rfl)) ?_; (with_reducible refine (spec_DoneBy.calls k _ _ t547 _ _ t550 t553 t557 _ ?side1 ?side2 ?side3 ?side4 A10.out).mono ?_); (case side1 => repeat (first | exact (Kd.N_reads' HO549.out).2.2 | (with_reducible first | refine Ca_ ?_ _ | refine Cn_ ?_ _ | refine Cd_ ?_))); (case side2 => exact (Kd.N_reads' HO549.out).2.1); (case side3 => repeat (first | exact (Kd.R_reads' HO552.out).2.2 | (with_reducible first | refine Ca_ ?_ _ | refine Cn_ ?_ _ | refine Cd_ ?_))); (case side4 => exact (Kd.R_reads' HO552.out).2.1); rintro e w14 ⟨v558, rfl, ho0, hb⟩; refine ⟨_, rfl, ?_⟩; replace HO549 := mk0 (Kd.N_elder' (by (with_reducible repeat (first | apply Na_ | apply Nn_ | apply Nd_)); exact HO549.out) (Kd.R_base ho0) hb); replace HO552 := mk0 (Kd.R_below (by (with_reducible repeat (first | apply Ra_ | apply Rn_ | apply Rd_)); exact HO552.out) hb); have HO559 := mk0 (Kd.R_lower (Kd.R_new' ho0 (Kd.R_lt (by (with_reducible repeat (first | apply Ra_ | apply Rn_ | apply Rd_)); exact HO556.out))) (below_size (by with_reducible repeat (first | exact HB.out | apply ba_ | apply bn_ | apply bd_)))); replace HO556 := mk0 (Kd.R_elder' (by (with_reducible repeat (first | apply Ra_ | apply Rn_ | apply Rd_)); exact HO556.out) (Kd.R_base ho0) hb); replace HB := mk0 (below_step (by with_reducible repeat (first | exact HB.out | apply ba_ | apply bn_ | apply bd_)) hb); clear hb ho0; obtain ⟨Ao15, co15, eo15⟩ := Kd.R_slice HO556.out; subst eo15; obtain ⟨Ao16, co16, eo16⟩ := Kd.R_slice HO559.out; subst eo16) | ((with_reducible refine gate_callee (f := 25) rfl ?_); refine goesL_ (some 27) rfl rfl Tryd.func25 (by kernel_rfl) rfl #[.slice Ao15 t554.length co15, .slice Ao16 t557.length co16] rfl (by (try simp only [List.map_toArray, List.map_cons, List.map_nil]); first | done | rfl | (simp only [List.length_drop, List.length_take]; rfl)) ?_; (with_reducible refine (laws_equalInts.calls k _ _ t554 _ _ t557 true _ ?side1 ?side2 ?side3 ?side4 A11.out).mono ?_); (case side1 => repeat (first | exact (Kd.R_reads' HO556.out).2.2 | (with_reducible first | refine Ca_ ?_ _ | refine Cn_ ?_ _ | refine Cd_ ?_))); (case side2 => exact (Kd.R_reads' HO556.out).2.1); (case side3 => repeat (first | exact (Kd.R_reads' HO559.out).2.2 | (with_reducible first | refine Ca_ ?_ _ | refine Cn_ ?_ _ | refine Cd_ ?_))); (case side4 => exact (Kd.R_reads' HO559.out).2.1); rintro e w' ⟨rfl, ⟨nd, rfl⟩⟩; refine ⟨_, rfl, ?_⟩) | (go_at_call 27; (with_reducible refine (impl_ValidLog.calls k _ _ t547 _ _ t550 t561 _ ?side1 ?side2 ?side3 ?side4 ?side99 A13.out).mono ?_); (case side99 => exact Tab.keep HT.out HT.out.lt (by with_reducible repeat (first | exact HB.out | apply ba_ | apply bn_ | apply bd_))); (case side1 => repeat (first | exact (Kd.N_reads' HO549.out).2.2 | (with_reducible first | refine Ca_ ?_ _ | refine Cn_ ?_ _ | refine Cd_ ?_))); (case side2 => exact (Kd.N_reads' HO549.out).2.1); (case side3 => repeat (first | exact (Kd.R_reads' HO552.out).2.2 | (with_reducible first | refine Ca_ ?_ _ | refine Cn_ ?_ _ | refine Cd_ ?_))); (case side4 => exact (Kd.R_reads' HO552.out).2.1); rintro e w17 ⟨rfl, hb⟩; replace HO549 := mk0 (Kd.N_below (by (with_reducible repeat (first | apply Na_ | apply Nn_ | apply Nd_)); exact HO549.out) hb); replace HO552 := mk0 (Kd.R_below (by (with_reducible repeat (first | apply Ra_ | apply Rn_ | apply Rd_)); exact HO552.out) hb); replace HO556 := mk0 (Kd.R_below (by (with_reducible repeat (first | apply Ra_ | apply Rn_ | apply Rd_)); exact HO556.out) hb); replace HO559 := mk0 (Kd.R_below (by (with_reducible repeat (first | apply Ra_ | apply Rn_ | apply Rd_)); exact HO559.out) hb); replace HB := mk0 (below_step (by with_reducible repeat (first | exact HB.out | apply ba_ | apply bn_ | apply bd_)) hb); clear hb))
    go_meet
    case rel => exact ⟨_, (!t561), (by first | rfl | (simp; done) | (simp [*]; done)), H', ⟨by first | omega | exact Nat.le_refl _⟩, ⟨by (with_reducible repeat (first | apply Na_ | apply Nn_ | apply Nd_)); exact Kd.N_mono HO549.out (fun _ hk => ⟨hk.1.1, hk.1.2⟩)⟩, ⟨by (with_reducible repeat (first | apply Ra_ | apply Rn_ | apply Rd_)); exact HO552.out⟩, ⟨by (with_reducible repeat (first | apply Ra_ | apply Rn_ | apply Rd_)); exact Kd.R_mono HO556.out (fun _ hk => trivial)⟩, ⟨by with_reducible repeat (first | exact HB.out | apply ba_ | apply bn_ | apply bd_)⟩⟩
   ·
    replace c12 := Bool.eq_false_iff.mpr c12
    subst c12
    rw [if_neg (show ¬ (false = true) by decide)] at H
    have H' := mk0 H
    clear H
    go_wp2_with (first | ((with_reducible refine gate_callee (f := 26) rfl ?_); refine goesL_ (some 26) rfl rfl Tryd.func26 (by kernel_rfl) rfl #[.slice Ao7 t547.length co7, .slice Ao8 t550.length co8, .int .i64 t553] rfl (by (try simp only [List.map_toArray, List.map_cons, List.map_nil]); first | done | rfl | (simp only [List.length_drop, List.length_take]; rfl)) ?_; (with_reducible refine (spec_DoneBy.calls k _ _ t547 _ _ t550 t553 t557 _ ?side1 ?side2 ?side3 ?side4 A10.out).mono ?_); (case side1 => repeat (first | exact (Kd.N_reads' HO549.out).2.2 | (with_reducible first | refine Ca_ ?_ _ | refine Cn_ ?_ _ | refine Cd_ ?_))); (case side2 => exact (Kd.N_reads' HO549.out).2.1); (case side3 => repeat (first | exact (Kd.R_reads' HO552.out).2.2 | (with_reducible first | refine Ca_ ?_ _ | refine Cn_ ?_ _ | refine Cd_ ?_))); (case side4 => exact (Kd.R_reads' HO552.out).2.1); rintro e w18 ⟨v558, rfl, ho0, hb⟩; refine ⟨_, rfl, ?_⟩; replace HO549 := mk0 (Kd.N_elder' (by (with_reducible repeat (first | apply Na_ | apply Nn_ | apply Nd_)); exact HO549.out) (Kd.R_base ho0) hb); replace HO552 := mk0 (Kd.R_below (by (with_reducible repeat (first | apply Ra_ | apply Rn_ | apply Rd_)); exact HO552.out) hb); have HO559 := mk0 (Kd.R_lower (Kd.R_new' ho0 (Kd.R_lt (by (with_reducible repeat (first | apply Ra_ | apply Rn_ | apply Rd_)); exact HO556.out))) (below_size (by with_reducible repeat (first | exact HB.out | apply ba_ | apply bn_ | apply bd_)))); replace HO556 := mk0 (Kd.R_elder' (by (with_reducible repeat (first | apply Ra_ | apply Rn_ | apply Rd_)); exact HO556.out) (Kd.R_base ho0) hb); replace HB := mk0 (below_step (by with_reducible repeat (first | exact HB.out | apply ba_ | apply bn_ | apply bd_)) hb); clear hb ho0; obtain ⟨Ao19, co19, eo19⟩ := Kd.R_slice HO556.out; subst eo19; obtain ⟨Ao20, co20, eo20⟩ := Kd.R_slice HO559.out; subst eo20) | ((with_reducible refine gate_callee (f := 25) rfl ?_); refine goesL_ (some 27) rfl rfl Tryd.func25 (by kernel_rfl) rfl #[.slice Ao19 t554.length co19, .slice Ao20 t557.length co20] rfl (by (try simp only [List.map_toArray, List.map_cons, List.map_nil]); first | done | rfl | (simp only [List.length_drop, List.length_take]; rfl)) ?_; (with_reducible refine (laws_equalInts.calls k _ _ t554 _ _ t557 false _ ?side1 ?side2 ?side3 ?side4 A11.out).mono ?_); (case side1 => repeat (first | exact (Kd.R_reads' HO556.out).2.2 | (with_reducible first | refine Ca_ ?_ _ | refine Cn_ ?_ _ | refine Cd_ ?_))); (case side2 => exact (Kd.R_reads' HO556.out).2.1); (case side3 => repeat (first | exact (Kd.R_reads' HO559.out).2.2 | (with_reducible first | refine Ca_ ?_ _ | refine Cn_ ?_ _ | refine Cd_ ?_))); (case side4 => exact (Kd.R_reads' HO559.out).2.1); rintro e w' ⟨rfl, ⟨nd, rfl⟩⟩; refine ⟨_, rfl, ?_⟩))
    go_meet
    case rel => exact ⟨_, (true), (by first | rfl | (simp; done) | (simp [*]; done)), H', ⟨by first | omega | exact Nat.le_refl _⟩, ⟨by (with_reducible repeat (first | apply Na_ | apply Nn_ | apply Nd_)); exact Kd.N_mono HO549.out (fun _ hk => ⟨hk.1.1, hk.1.2⟩)⟩, ⟨by (with_reducible repeat (first | apply Ra_ | apply Rn_ | apply Rd_)); exact HO552.out⟩, ⟨by (with_reducible repeat (first | apply Ra_ | apply Rn_ | apply Rd_)); exact Kd.R_mono HO556.out (fun _ hk => trivial)⟩, ⟨by with_reducible repeat (first | exact HB.out | apply ba_ | apply bn_ | apply bd_)⟩⟩
  case rest =>
   clear HC5
   try clear c1
   try clear c2
   try clear c2b0
   try clear c2b1
   try clear p2
   try clear c6
   try clear c12
   obtain ⟨kq, x34_4, rfl, HA, HJ4, HO_3, HO_4, HO_6, HB⟩ := hcut
   cases kq with
   | zero => exact absurd HA.out (by simp [laws_FnDoneBy.j0])
   | succ kj4 =>
    have H := HA.out
    clear HA
    simp only [laws_FnDoneBy.j0] at H
    by_cases c21 : x34_4 = true
    ·
     subst c21
     rw [if_pos rfl] at H
     replace H := bE_ H
     obtain ⟨t562, A220, H⟩ := H
     have A22 := mk0 A220
     clear A220
     replace H := bE_ H
     obtain ⟨t565, A230, H⟩ := H
     have A23 := mk0 A230
     clear A230
     obtain rfl := Option.some.inj H
     go_wp2_with (first | ((with_reducible refine gate_callee (f := 26) rfl ?_); refine goesL_ (some 39) rfl rfl Tryd.func26 (by kernel_rfl) rfl #[.slice Ao7 t547.length co7, .slice Ao8 t550.length co8, .int .i64 t553] rfl (by (try simp only [List.map_toArray, List.map_cons, List.map_nil]); first | done | rfl | (simp only [List.length_drop, List.length_take]; rfl)) ?_; (with_reducible refine (spec_DoneBy.calls kj4 _ _ t547 _ _ t550 t553 t562 _ ?side1 ?side2 ?side3 ?side4 A22.out).mono ?_); (case side1 => repeat (first | exact (Kd.N_reads' HO_3.out).2.2 | (with_reducible first | refine Ca_ ?_ _ | refine Cn_ ?_ _ | refine Cd_ ?_))); (case side2 => exact (Kd.N_reads' HO_3.out).2.1); (case side3 => repeat (first | exact (Kd.R_reads' HO_4.out).2.2 | (with_reducible first | refine Ca_ ?_ _ | refine Cn_ ?_ _ | refine Cd_ ?_))); (case side4 => exact (Kd.R_reads' HO_4.out).2.1); rintro e w24 ⟨v563, rfl, ho0, hb⟩; refine ⟨_, rfl, ?_⟩; replace HO_3 := mk0 (Kd.N_elder' (by (with_reducible repeat (first | apply Na_ | apply Nn_ | apply Nd_)); exact HO_3.out) (Kd.R_base ho0) hb); replace HO_4 := mk0 (Kd.R_below (by (with_reducible repeat (first | apply Ra_ | apply Rn_ | apply Rd_)); exact HO_4.out) hb); have HO564 := mk0 (Kd.R_lower (Kd.R_new' ho0 (Kd.R_lt (by (with_reducible repeat (first | apply Ra_ | apply Rn_ | apply Rd_)); exact HO_6.out))) (below_size (by with_reducible repeat (first | exact HB.out | apply ba_ | apply bn_ | apply bd_)))); replace HO_6 := mk0 (Kd.R_elder' (by (with_reducible repeat (first | apply Ra_ | apply Rn_ | apply Rd_)); exact HO_6.out) (Kd.R_base ho0) hb); replace HB := mk0 (below_step (by with_reducible repeat (first | exact HB.out | apply ba_ | apply bn_ | apply bd_)) hb); clear hb ho0; obtain ⟨Ao25, co25, eo25⟩ := Kd.R_slice HO_6.out; subst eo25; obtain ⟨Ao26, co26, eo26⟩ := Kd.R_slice HO564.out; subst eo26) | ((with_reducible refine gate_callee (f := 25) rfl ?_); refine goesL_ (some 40) rfl rfl Tryd.func25 (by kernel_rfl) rfl #[.slice Ao25 t554.length co25, .slice Ao26 t562.length co26] rfl (by (try simp only [List.map_toArray, List.map_cons, List.map_nil]); first | done | rfl | (simp only [List.length_drop, List.length_take]; rfl)) ?_; (with_reducible refine (laws_equalInts.calls kj4 _ _ t554 _ _ t562 t565 _ ?side1 ?side2 ?side3 ?side4 A23.out).mono ?_); (case side1 => repeat (first | exact (Kd.R_reads' HO_6.out).2.2 | (with_reducible first | refine Ca_ ?_ _ | refine Cn_ ?_ _ | refine Cd_ ?_))); (case side2 => exact (Kd.R_reads' HO_6.out).2.1); (case side3 => repeat (first | exact (Kd.R_reads' HO564.out).2.2 | (with_reducible first | refine Ca_ ?_ _ | refine Cn_ ?_ _ | refine Cd_ ?_))); (case side4 => exact (Kd.R_reads' HO564.out).2.1); rintro e w' ⟨rfl, ⟨nd, rfl⟩⟩; refine ⟨_, rfl, ?_⟩))
     go_ret
     exact ⟨by first | rfl | (simp [errW_none, errW_some] <;> rfl) | (simp [*, errW_none, errW_some] <;> rfl), by with_reducible repeat (first | exact HB.out | apply ba_ | apply bn_ | apply bd_)⟩
    ·
     replace c21 := Bool.eq_false_iff.mpr c21
     subst c21
     rw [if_neg (show ¬ (false = true) by decide)] at H
     replace H := bE_ H
     obtain ⟨t566, A270, H⟩ := H
     have A27 := mk0 A270
     clear A270
     have H' := mk0 H
     clear H
     go_wp2_with (first | ((with_reducible refine gate_callee (f := 24) rfl ?_); refine goesL_ (some 45) rfl rfl Tryd.func24 (by kernel_rfl) rfl #[.slice Ao7 t547.length co7, .slice Ao8 t550.length co8, .int .i64 (wrap64 (t553 + 1))] rfl (by (try simp only [List.map_toArray, List.map_cons, List.map_nil]); first | done | rfl | (simp only [List.length_drop, List.length_take]; rfl)) ?_; (with_reducible refine (impl_DoneBy.calls kj4 _ _ t547 _ _ t550 (wrap64 (t553 + 1)) t566 _ ?side1 ?side2 ?side3 ?side4 ?side99 A27.out).mono ?_); (case side99 => exact Tab.keep HT.out HT.out.lt (by with_reducible repeat (first | exact HB.out | apply ba_ | apply bn_ | apply bd_))); (case side1 => repeat (first | exact (Kd.N_reads' HO_3.out).2.2 | (with_reducible first | refine Ca_ ?_ _ | refine Cn_ ?_ _ | refine Cd_ ?_))); (case side2 => exact (Kd.N_reads' HO_3.out).2.1); (case side3 => repeat (first | exact (Kd.R_reads' HO_4.out).2.2 | (with_reducible first | refine Ca_ ?_ _ | refine Cn_ ?_ _ | refine Cd_ ?_))); (case side4 => exact (Kd.R_reads' HO_4.out).2.1); rintro e w28 ⟨v567, rfl, ho0, hb⟩; refine ⟨_, rfl, ?_⟩; replace HO_3 := mk0 (Kd.N_elder' (by (with_reducible repeat (first | apply Na_ | apply Nn_ | apply Nd_)); exact HO_3.out) (Kd.R_base ho0) hb); replace HO_4 := mk0 (Kd.R_below (by (with_reducible repeat (first | apply Ra_ | apply Rn_ | apply Rd_)); exact HO_4.out) hb); have HO568 := mk0 (Kd.R_lower (Kd.R_new' ho0 (Kd.R_lt (by (with_reducible repeat (first | apply Ra_ | apply Rn_ | apply Rd_)); exact HO_6.out))) (below_size (by with_reducible repeat (first | exact HB.out | apply ba_ | apply bn_ | apply bd_)))); replace HO_6 := mk0 (Kd.R_elder' (by (with_reducible repeat (first | apply Ra_ | apply Rn_ | apply Rd_)); exact HO_6.out) (Kd.R_base ho0) hb); replace HB := mk0 (below_step (by with_reducible repeat (first | exact HB.out | apply ba_ | apply bn_ | apply bd_)) hb); clear hb ho0))
     go_loopg [8] kj4 (fun kq v8 w' => ∃ (x8_2 : Int), v8 = .int .i64 x8_2 ∧ Aside0 (laws_FnDoneBy.l0 kq t547 t550 t554 t566 x8_2 = some r) ∧ Aside0 (kq ≤ kj4) ∧ Aside0 (Kd.N k41 58 w' w.heap.size (fun k_ => some k_ ≠ ((.slice Ao8 t550.length co8) : Value).ownBlock ∧ some k_ ≠ (v555 : Value).ownBlock ∧ some k_ ≠ (v567 : Value).ownBlock) (.slice Ao7 t547.length co7) t547) ∧ Aside0 (Kd.R k30 75 w' w.heap.size (fun _ => True) (.slice Ao8 t550.length co8) t550) ∧ Aside0 (Kd.R (Kd.int .i64) 3 w' w.heap.size (fun k_ => some k_ ≠ (v567 : Value).ownBlock) v555 t554) ∧ Aside0 (Kd.R (Kd.int .i64) 3 w' w.heap.size (fun k_ => some k_ ≠ (v555 : Value).ownBlock) v567 t566) ∧ Aside0 (Below w.heap.size w w'))
     case atStart => exact ⟨(0), (by first | rfl | (simp; done) | (simp [*]; done)), H', ⟨Nat.le_refl _⟩, ⟨by (with_reducible repeat (first | apply Na_ | apply Nn_ | apply Nd_)); exact Kd.N_mono HO_3.out (fun _ hk => ⟨hk.1.1, ⟨hk.1.2, hk.2⟩⟩)⟩, ⟨by (with_reducible repeat (first | apply Ra_ | apply Rn_ | apply Rd_)); exact HO_4.out⟩, ⟨by (with_reducible repeat (first | apply Ra_ | apply Rn_ | apply Rd_)); exact Kd.R_mono HO_6.out (fun _ hk => hk.2)⟩, ⟨by (with_reducible repeat (first | apply Ra_ | apply Rn_ | apply Rd_)); exact Kd.R_mono HO568.out (fun _ hk => hk.2)⟩, ⟨by with_reducible repeat (first | exact HB.out | apply ba_ | apply bn_ | apply bd_)⟩⟩
     case round =>
      clear H'
      try clear c1
      try clear c2
      try clear c2b0
      try clear c2b1
      try clear p2
      try clear c6
      try clear p6
      try clear c12
      try clear c21
      try clear c23
      try clear c24
      try clear c25
      try clear c26
      try clear p2
      obtain ⟨x8_2, rfl, HA, HK2, HO_3, HO_4, HO_6, HO_7, HB⟩ := hrel
      cases gk with
      | zero => exact absurd HA.out (by simp [laws_FnDoneBy.l0])
      | succ k2 =>
       have H := HA.out
       clear HA
       simp only [laws_FnDoneBy.l0] at H
       by_cases c29 : x8_2 < (t554.length : Int)
       ·
        rw [if_pos c29] at H
        have c29b0 : decide (x8_2 < (t554.length : Int)) = true := decide_eq_true c29
        clear c29
        by_cases c30 : 0 ≤ x8_2
        ·
         rw [if_pos c30] at H
         have c30b0 : decide (0 ≤ x8_2) = true := decide_eq_true c30
         clear c30
         replace H := bE_ H
         obtain ⟨t570, A310, H⟩ := H
         have A31 := mk0 A310
         clear A310
         by_cases c32 : t570 = true
         ·
          subst c32
          rw [if_pos rfl] at H
          have H' := mk0 H
          clear H
          obtain ⟨Ao33, co33, eo33⟩ := Kd.R_slice HO_6.out
          subst eo33
          have p569 : 0 ≤ (x8_2 : Int) := od_ (by with_reducible assumption)
          have q569 : x8_2 < (t554.length : Int) := od_ (by with_reducible assumption)
          obtain ⟨ad569, e569, hx569_0⟩ := Kd.at_int (Kd.R_reads' HO_6.out).2.2 x8_2 p569 q569
          cases e569
          replace p569 := eq_true p569
          replace q569 := eq_true q569
          obtain ⟨Ao34, co34, eo34⟩ := Kd.R_slice HO_7.out
          subst eo34
          go_wp2_with (first | ((with_reducible refine gate_callee (f := 28) rfl ?_); refine goesL_ (some 57) rfl rfl Tryd.func28 (by kernel_rfl) rfl #[.slice Ao34 t566.length co34, .int .i64 (rd t554 x8_2)] rfl (by (try simp only [List.map_toArray, List.map_cons, List.map_nil]); first | done | rfl | (simp only [List.length_drop, List.length_take]; rfl)) ?_; (with_reducible refine (laws_isIn.calls k2 _ _ t566 (rd t554 x8_2) true _ ?side1 ?side2 A31.out).mono ?_); (case side1 => repeat (first | exact (Kd.R_reads' HO_7.out).2.2 | (with_reducible first | refine Ca_ ?_ _ | refine Cn_ ?_ _ | refine Cd_ ?_))); (case side2 => exact (Kd.R_reads' HO_7.out).2.1); rintro e w' ⟨rfl, ⟨nd, rfl⟩⟩; refine ⟨_, rfl, ?_⟩))
          go_roundg k2
          case measure => have := HJ4.out; have := HK2.out; omega
          case rel => exact ⟨(wrap64 (x8_2 + 1)), (by first | rfl | (simp; done) | (simp [*]; done)), H', ⟨by have := HJ4.out; have := HK2.out; omega⟩, ⟨by (with_reducible repeat (first | apply Na_ | apply Nn_ | apply Nd_)); exact HO_3.out⟩, ⟨by (with_reducible repeat (first | apply Ra_ | apply Rn_ | apply Rd_)); exact HO_4.out⟩, ⟨by (with_reducible repeat (first | apply Ra_ | apply Rn_ | apply Rd_)); exact HO_6.out⟩, ⟨by (with_reducible repeat (first | apply Ra_ | apply Rn_ | apply Rd_)); exact HO_7.out⟩, ⟨by with_reducible repeat (first | exact HB.out | apply ba_ | apply bn_ | apply bd_)⟩⟩
         ·
          replace c32 := Bool.eq_false_iff.mpr c32
          subst c32
          rw [if_neg (show ¬ (false = true) by decide)] at H
          obtain rfl := Option.some.inj H
          obtain ⟨Ao35, co35, eo35⟩ := Kd.R_slice HO_6.out
          subst eo35
          have p569 : 0 ≤ (x8_2 : Int) := od_ (by with_reducible assumption)
          have q569 : x8_2 < (t554.length : Int) := od_ (by with_reducible assumption)
          obtain ⟨ad569, e569, hx569_0⟩ := Kd.at_int (Kd.R_reads' HO_6.out).2.2 x8_2 p569 q569
          cases e569
          replace p569 := eq_true p569
          replace q569 := eq_true q569
          obtain ⟨Ao36, co36, eo36⟩ := Kd.R_slice HO_7.out
          subst eo36
          go_wp2_with (first | ((with_reducible refine gate_callee (f := 28) rfl ?_); refine goesL_ (some 57) rfl rfl Tryd.func28 (by kernel_rfl) rfl #[.slice Ao36 t566.length co36, .int .i64 (rd t554 x8_2)] rfl (by (try simp only [List.map_toArray, List.map_cons, List.map_nil]); first | done | rfl | (simp only [List.length_drop, List.length_take]; rfl)) ?_; (with_reducible refine (laws_isIn.calls k2 _ _ t566 (rd t554 x8_2) false _ ?side1 ?side2 A31.out).mono ?_); (case side1 => repeat (first | exact (Kd.R_reads' HO_7.out).2.2 | (with_reducible first | refine Ca_ ?_ _ | refine Cn_ ?_ _ | refine Cd_ ?_))); (case side2 => exact (Kd.R_reads' HO_7.out).2.1); rintro e w' ⟨rfl, ⟨nd, rfl⟩⟩; refine ⟨_, rfl, ?_⟩))
          go_ret
          exact ⟨by first | rfl | (simp [errW_none, errW_some] <;> rfl) | (simp [*, errW_none, errW_some] <;> rfl), by with_reducible repeat (first | exact HB.out | apply ba_ | apply bn_ | apply bd_)⟩
        ·
         rw [if_neg c30] at H
         exact nn_ H
       ·
        rw [if_neg c29] at H
        have c29b0 : decide (x8_2 < (t554.length : Int)) = false := decide_eq_false c29
        clear c29
        replace H := bE_ H
        obtain ⟨t571, A370, H⟩ := H
        have A37 := mk0 A370
        clear A370
        by_cases c38 : t571 = true
        ·
         subst c38
         rw [if_pos rfl] at H
         replace H := bE_ H
         obtain ⟨t572, A390, H⟩ := H
         have A39 := mk0 A390
         clear A390
         obtain rfl := Option.some.inj H
         obtain ⟨Ao40, co40, eo40⟩ := Kd.R_slice HO_6.out
         subst eo40
         go_wp2_with (first | ((with_reducible refine gate_callee (f := 29) rfl ?_); refine goesL_ (some 61) rfl rfl Tryd.func29 (by kernel_rfl) rfl #[.slice Ao7 t547.length co7, .slice Ao40 t554.length co40] rfl (by (try simp only [List.map_toArray, List.map_cons, List.map_nil]); first | done | rfl | (simp only [List.length_drop, List.length_take]; rfl)) ?_; (with_reducible refine (impl_ValidDone.calls k2 _ _ t547 _ _ t554 true _ ?side1 ?side2 ?side3 ?side4 ?side99 A37.out).mono ?_); (case side99 => exact Tab.keep HT.out HT.out.lt (by with_reducible repeat (first | exact HB.out | apply ba_ | apply bn_ | apply bd_))); (case side1 => repeat (first | exact (Kd.N_reads' HO_3.out).2.2 | (with_reducible first | refine Ca_ ?_ _ | refine Cn_ ?_ _ | refine Cd_ ?_))); (case side2 => exact (Kd.N_reads' HO_3.out).2.1); (case side3 => repeat (first | exact (Kd.R_reads' HO_6.out).2.2 | (with_reducible first | refine Ca_ ?_ _ | refine Cn_ ?_ _ | refine Cd_ ?_))); (case side4 => exact (Kd.R_reads' HO_6.out).2.1); rintro e w41 ⟨rfl, hb⟩; refine ⟨_, rfl, ?_⟩; replace HO_3 := mk0 (Kd.N_below (by (with_reducible repeat (first | apply Na_ | apply Nn_ | apply Nd_)); exact HO_3.out) hb); replace HO_4 := mk0 (Kd.R_below (by (with_reducible repeat (first | apply Ra_ | apply Rn_ | apply Rd_)); exact HO_4.out) hb); replace HO_6 := mk0 (Kd.R_below (by (with_reducible repeat (first | apply Ra_ | apply Rn_ | apply Rd_)); exact HO_6.out) hb); replace HO_7 := mk0 (Kd.R_below (by (with_reducible repeat (first | apply Ra_ | apply Rn_ | apply Rd_)); exact HO_7.out) hb); replace HB := mk0 (below_step (by with_reducible repeat (first | exact HB.out | apply ba_ | apply bn_ | apply bd_)) hb); clear hb) | (go_at_call 24; (with_reducible refine (impl_DoneBy.calls k2 _ _ t547 _ _ t550 (-1) t572 _ ?side1 ?side2 ?side3 ?side4 ?side99 A39.out).mono ?_); (case side99 => exact Tab.keep HT.out HT.out.lt (by with_reducible repeat (first | exact HB.out | apply ba_ | apply bn_ | apply bd_))); (case side1 => repeat (first | exact (Kd.N_reads' HO_3.out).2.2 | (with_reducible first | refine Ca_ ?_ _ | refine Cn_ ?_ _ | refine Cd_ ?_))); (case side2 => exact (Kd.N_reads' HO_3.out).2.1); (case side3 => repeat (first | exact (Kd.R_reads' HO_4.out).2.2 | (with_reducible first | refine Ca_ ?_ _ | refine Cn_ ?_ _ | refine Cd_ ?_))); (case side4 => exact (Kd.R_reads' HO_4.out).2.1); rintro e w42 ⟨v573, rfl, ho0, hb⟩; replace HO_3 := mk0 (Kd.N_elder' (by (with_reducible repeat (first | apply Na_ | apply Nn_ | apply Nd_)); exact HO_3.out) (Kd.R_base ho0) hb); replace HO_4 := mk0 (Kd.R_below (by (with_reducible repeat (first | apply Ra_ | apply Rn_ | apply Rd_)); exact HO_4.out) hb); have HO574 := mk0 (Kd.R_lower (Kd.R_new' (Kd.R_new' ho0 (Kd.R_lt (by (with_reducible repeat (first | apply Ra_ | apply Rn_ | apply Rd_)); exact HO_6.out))) (Kd.R_lt (by (with_reducible repeat (first | apply Ra_ | apply Rn_ | apply Rd_)); exact HO_7.out))) (below_size (by with_reducible repeat (first | exact HB.out | apply ba_ | apply bn_ | apply bd_)))); replace HO_6 := mk0 (Kd.R_elder' (by (with_reducible repeat (first | apply Ra_ | apply Rn_ | apply Rd_)); exact HO_6.out) (Kd.R_base ho0) hb); replace HO_7 := mk0 (Kd.R_elder' (by (with_reducible repeat (first | apply Ra_ | apply Rn_ | apply Rd_)); exact HO_7.out) (Kd.R_base ho0) hb); replace HB := mk0 (below_step (by with_reducible repeat (first | exact HB.out | apply ba_ | apply bn_ | apply bd_)) hb); clear hb ho0; obtain ⟨Ao43, co43, eo43⟩ := Kd.R_slice HO574.out; subst eo43))
         go_ret
         exact ⟨by first | rfl | (simp [errW_none, errW_some] <;> rfl) | (simp [*, errW_none, errW_some] <;> rfl), by with_reducible repeat (first | exact HB.out | apply ba_ | apply bn_ | apply bd_)⟩
        ·
         replace c38 := Bool.eq_false_iff.mpr c38
         subst c38
         rw [if_neg (show ¬ (false = true) by decide)] at H
         obtain rfl := Option.some.inj H
         obtain ⟨Ao44, co44, eo44⟩ := Kd.R_slice HO_6.out
         subst eo44
         go_wp2_with (first | ((with_reducible refine gate_callee (f := 29) rfl ?_); refine goesL_ (some 61) rfl rfl Tryd.func29 (by kernel_rfl) rfl #[.slice Ao7 t547.length co7, .slice Ao44 t554.length co44] rfl (by (try simp only [List.map_toArray, List.map_cons, List.map_nil]); first | done | rfl | (simp only [List.length_drop, List.length_take]; rfl)) ?_; (with_reducible refine (impl_ValidDone.calls k2 _ _ t547 _ _ t554 false _ ?side1 ?side2 ?side3 ?side4 ?side99 A37.out).mono ?_); (case side99 => exact Tab.keep HT.out HT.out.lt (by with_reducible repeat (first | exact HB.out | apply ba_ | apply bn_ | apply bd_))); (case side1 => repeat (first | exact (Kd.N_reads' HO_3.out).2.2 | (with_reducible first | refine Ca_ ?_ _ | refine Cn_ ?_ _ | refine Cd_ ?_))); (case side2 => exact (Kd.N_reads' HO_3.out).2.1); (case side3 => repeat (first | exact (Kd.R_reads' HO_6.out).2.2 | (with_reducible first | refine Ca_ ?_ _ | refine Cn_ ?_ _ | refine Cd_ ?_))); (case side4 => exact (Kd.R_reads' HO_6.out).2.1); rintro e w45 ⟨rfl, hb⟩; refine ⟨_, rfl, ?_⟩; replace HO_3 := mk0 (Kd.N_below (by (with_reducible repeat (first | apply Na_ | apply Nn_ | apply Nd_)); exact HO_3.out) hb); replace HO_4 := mk0 (Kd.R_below (by (with_reducible repeat (first | apply Ra_ | apply Rn_ | apply Rd_)); exact HO_4.out) hb); replace HO_6 := mk0 (Kd.R_below (by (with_reducible repeat (first | apply Ra_ | apply Rn_ | apply Rd_)); exact HO_6.out) hb); replace HO_7 := mk0 (Kd.R_below (by (with_reducible repeat (first | apply Ra_ | apply Rn_ | apply Rd_)); exact HO_7.out) hb); replace HB := mk0 (below_step (by with_reducible repeat (first | exact HB.out | apply ba_ | apply bn_ | apply bd_)) hb); clear hb))
         go_ret
         exact ⟨by first | rfl | (simp [errW_none, errW_some] <;> rfl) | (simp [*, errW_none, errW_some] <;> rfl), by with_reducible repeat (first | exact HB.out | apply ba_ | apply bn_ | apply bd_)⟩
end Go.Proofs.YtpmfghbjkampkaaDoor.PFnValidLog
