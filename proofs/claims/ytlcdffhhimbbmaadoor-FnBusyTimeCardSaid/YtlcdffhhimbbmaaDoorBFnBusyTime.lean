/- The body of the law FnBusyTime, walked: cut by a program of mine from what print.sh printed, with my contracts of what it calls. -/
import Derived.Test.YtlcdffhhimbbmaaDoorShimDone
namespace Go.Proofs.YtlcdffhhimbbmaaDoor.PFnValidLog
open Go Go.RowKit Go.Proofs.YtlcdffhhimbbmaaDoorW.PrintWords Go.Proofs.YtlcdffhhimbbmaaDoorW.PrintLast Go.Proofs.YtlcdffhhimbbmaaDoorW.PrintMore
attribute [local go_sem] max2_int min2_int max_two min_two max_three min_three max_four min_four
set_option linter.unusedVariables false
set_option linter.unusedSimpArgs false
def spec_DrawBusyTime.f (k : Nat) (l0 : List Int) : Option ((List (S41)) × (List (S30))) := (spec_DrawValidLog.f k l0).bind fun bt485 => (some (bt485.1, bt485.2))
set_option maxHeartbeats 8000000 in
set_option maxRecDepth 100000 in
theorem spec_DrawBusyTime.calls (k : Nat) (A0 : Option Addr) (c0 : Nat) (l0 : List Int) (r1 : List (S41)) (r2 : List (S30)) (w : World) (hr0 : Kd.C (Kd.int .u8) w A0 l0.length l0) (hc0 : l0.length ≤ c0) (h : spec_DrawBusyTime.f k l0 = some (r1, r2)) :
  Calls Tryd.prog 19 #[.slice A0 l0.length c0] w fun e w' => ∃ v0_ v1_ : Value, e = .returned (.tuple #[v0_, v1_]) ∧ Kd.N k41 41 w' w.heap.size (fun k_ => (w.heap.size ≤ k_) ∧ some k_ ≠ (v1_ : Value).ownBlock) v0_ r1 ∧ Kd.R k30 30 w' w.heap.size (fun k_ => (w.heap.size ≤ k_)) v1_ r2 ∧ Below w.heap.size w w' := by
 have HR0 := mk0 hr0
 have HC0 := mk0 hc0
 clear hr0 hc0
 have HB := mk0 (Below.refl w.heap.size w)
 have H : ((spec_DrawValidLog.f k l0).bind fun bt485 => (some (bt485.1, bt485.2))) = some (r1, r2) := h
 clear h
 replace H := bE_ H
 obtain ⟨⟨t485, t488⟩, A20, H⟩ := H
 have A2 := mk0 A20
 clear A20
 simp only [Option.some.injEq, Prod.mk.injEq] at H
 obtain ⟨rfl, rfl⟩ := H
 go_enter Tryd.func19, Tryd.ntmps19
 go_wp2_with (first | ((with_reducible refine gate_callee (f := 9) rfl ?_); refine goesL_ (some 5) rfl rfl Tryd.func9 (by kernel_rfl) rfl #[.slice A0 l0.length c0] rfl (by (try simp only [List.map_toArray, List.map_cons, List.map_nil]); first | done | rfl | (simp only [List.length_drop, List.length_take]; rfl)) ?_; (with_reducible refine (spec_DrawValidLog.calls k _ _ l0 t485 t488 _ ?side1 ?side2 A2.out).mono ?_); (case side1 => repeat (first | exact HR0.out | (with_reducible first | refine Ca_ ?_ _ | refine Cn_ ?_ _ | refine Cd_ ?_))); (case side2 => exact HC0.out); rintro e w3 ⟨v486, v489, rfl, ho0, ho1, hb⟩; refine ⟨_, rfl, ?_⟩; have HO487 := mk0 (Kd.N_lower (Kd.N_mono (ok' := fun k_ => (w.heap.size ≤ k_) ∧ some k_ ≠ (v489 : Value).ownBlock) ho0 (fun k_ hk_ => ⟨(Nat.le_trans (below_size (by with_reducible repeat (first | exact HB.out | apply ba_ | apply bn_ | apply bd_))) hk_.1), hk_.2⟩)) (below_size (by with_reducible repeat (first | exact HB.out | apply ba_ | apply bn_ | apply bd_)))); have HO490 := mk0 (Kd.R_lower (Kd.R_newM (M := fun k_ => (w.heap.size ≤ k_)) (Kd.R_mono (ok' := fun k_ => True) ho1 (fun _ hk_ => trivial)) (below_size (by with_reducible repeat (first | exact HB.out | apply ba_ | apply bn_ | apply bd_))) (fun k_ h_ => h_)) (below_size (by with_reducible repeat (first | exact HB.out | apply ba_ | apply bn_ | apply bd_)))); replace HB := mk0 (below_step (by with_reducible repeat (first | exact HB.out | apply ba_ | apply bn_ | apply bd_)) hb); clear hb ho0 ho1))
 go_ret2
 exact ⟨_, _, by first | rfl | (simp [errW_none, errW_some] <;> rfl) | (simp [*, errW_none, errW_some] <;> rfl), by (with_reducible repeat (first | apply Na_ | apply Nn_ | apply Nd_)); exact HO487.out, by (with_reducible repeat (first | apply Ra_ | apply Rn_ | apply Rd_)); exact Kd.R_mono HO490.out (fun _ hk => hk.1), by with_reducible repeat (first | exact HB.out | apply ba_ | apply bn_ | apply bd_)⟩
def spec_BusyTime.l0 : Nat → List (S41) → List (S30) → Int → Int → Option (Int)
 | 0, _, _, _, _ => none
 | k + 1, x0, x1, x5, x6 => if x6 < (x1.length : Int) then (if 0 ≤ x6 then (if (rd_T30 x1 x6).f2 = true then (if 0 ≤ ((rd_T30 x1 x6).f1) then (if ((rd_T30 x1 x6).f1) < (x0.length : Int) then (spec_BusyTime.l0 k x0 x1 (wrap64 (x5 + ((rd_T41 x0 ((rd_T30 x1 x6).f1)).f0))) (wrap64 (x6 + 1))) else (none)) else (none)) else (spec_BusyTime.l0 k x0 x1 x5 (wrap64 (x6 + 1)))) else (none)) else (some x5)
def spec_BusyTime.f (k : Nat) (l0 : List (S41)) (l1 : List (S30)) : Option (Int) := (spec_validLog.f k l0 l1).bind fun t521 => (if t521 = true then (spec_BusyTime.l0 k l0 l1 0 0) else (some (-1)))
set_option maxHeartbeats 8000000 in
set_option maxRecDepth 100000 in
theorem spec_BusyTime.calls (k : Nat) (A0 : Option Addr) (c0 : Nat) (l0 : List (S41)) (A1 : Option Addr) (c1 : Nat) (l1 : List (S30)) (r : Int) (w : World) (hr0 : Kd.C k41 w A0 l0.length l0) (hc0 : l0.length ≤ c0) (hr1 : Kd.C k30 w A1 l1.length l1) (hc1 : l1.length ≤ c1) (h : spec_BusyTime.f k l0 l1 = some r) :
  Calls Tryd.prog 21 #[.slice A0 l0.length c0, .slice A1 l1.length c1] w fun e w' => e = .returned (.int .i64 r) ∧ Below w.heap.size w w' := by
 have HR0 := mk0 hr0
 have HC0 := mk0 hc0
 clear hr0 hc0
 have HR1 := mk0 hr1
 have HC1 := mk0 hc1
 clear hr1 hc1
 have HB := mk0 (Below.refl w.heap.size w)
 have H : ((spec_validLog.f k l0 l1).bind fun t521 => (if t521 = true then (spec_BusyTime.l0 k l0 l1 0 0) else (some (-1)))) = some r := h
 clear h
 replace H := bE_ H
 obtain ⟨t521, A30, H⟩ := H
 have A3 := mk0 A30
 clear A30
 by_cases c4 : t521 = true
 ·
  subst c4
  rw [if_pos rfl] at H
  have H' := mk0 H
  clear H
  go_enter Tryd.func21, Tryd.ntmps21
  go_wp2_with (first | ((with_reducible refine gate_callee (f := 31) rfl ?_); refine goesL_ (some 9) rfl rfl Tryd.func31 (by kernel_rfl) rfl #[.slice A0 l0.length c0, .slice A1 l1.length c1] rfl (by (try simp only [List.map_toArray, List.map_cons, List.map_nil]); first | done | rfl | (simp only [List.length_drop, List.length_take]; rfl)) ?_; (with_reducible refine (spec_validLog.calls k _ _ l0 _ _ l1 true _ ?side1 ?side2 ?side3 ?side4 A3.out).mono ?_); (case side1 => repeat (first | exact HR0.out | (with_reducible first | refine Ca_ ?_ _ | refine Cn_ ?_ _ | refine Cd_ ?_))); (case side2 => exact HC0.out); (case side3 => repeat (first | exact HR1.out | (with_reducible first | refine Ca_ ?_ _ | refine Cn_ ?_ _ | refine Cd_ ?_))); (case side4 => exact HC1.out); rintro e w5 ⟨rfl, hb⟩; refine ⟨_, rfl, ?_⟩; replace HB := mk0 (below_step (by with_reducible repeat (first | exact HB.out | apply ba_ | apply bn_ | apply bd_)) hb); clear hb))
  go_loopg [5, 6] k (fun kq v5 v6 w' => ∃ (x5_1 : Int) (x6_1 : Int), v5 = .int .i64 x5_1 ∧ v6 = .int .i64 x6_1 ∧ Aside0 (spec_BusyTime.l0 kq l0 l1 x5_1 x6_1 = some r) ∧ Aside0 (kq ≤ k) ∧ Aside0 (Below w.heap.size w w'))
  case atStart => exact ⟨(0), (0), (by first | rfl | (simp; done) | (simp [*]; done)), (by first | rfl | (simp; done) | (simp [*]; done)), H', ⟨Nat.le_refl _⟩, ⟨by with_reducible repeat (first | exact HB.out | apply ba_ | apply bn_ | apply bd_)⟩⟩
  case round =>
   clear H'
   try clear c1
   try clear c2
   try clear p2
   try clear c3
   try clear c4
   obtain ⟨x5_1, x6_1, rfl, rfl, HA, HK1, HB⟩ := hrel
   cases gk with
   | zero => exact absurd HA.out (by simp [spec_BusyTime.l0])
   | succ k1 =>
    have H := HA.out
    clear HA
    simp only [spec_BusyTime.l0] at H
    by_cases c6 : x6_1 < (l1.length : Int)
    ·
     rw [if_pos c6] at H
     have c6b0 : decide (x6_1 < (l1.length : Int)) = true := decide_eq_true c6
     clear c6
     by_cases c7 : 0 ≤ x6_1
     ·
      rw [if_pos c7] at H
      have c7b0 : decide (0 ≤ x6_1) = true := decide_eq_true c7
      clear c7
      obtain ⟨bq8, hbq8⟩ : ∃ b_ : Bool, b_ = ((rd_T30 l1 x6_1).f2) := ⟨_, rfl⟩
      replace H : (if bq8 = true then (if 0 ≤ ((rd_T30 l1 x6_1).f1) then (if ((rd_T30 l1 x6_1).f1) < (l0.length : Int) then (spec_BusyTime.l0 k1 l0 l1 (wrap64 (x5_1 + ((rd_T41 l0 ((rd_T30 l1 x6_1).f1)).f0))) (wrap64 (x6_1 + 1))) else (none)) else (none)) else (spec_BusyTime.l0 k1 l0 l1 x5_1 (wrap64 (x6_1 + 1)))) = some r := by rw [← hbq8] at H; exact H
      have Nbq8 := mk0 hbq8
      clear hbq8
      by_cases c9 : bq8 = true
      ·
       subst c9
       rw [if_pos rfl] at H
       by_cases c10 : 0 ≤ ((rd_T30 l1 x6_1).f1)
       ·
        rw [if_pos c10] at H
        have c10b0 : decide (0 ≤ ((rd_T30 l1 x6_1).f1)) = true := decide_eq_true c10
        clear c10
        by_cases c11 : ((rd_T30 l1 x6_1).f1) < (l0.length : Int)
        ·
         rw [if_pos c11] at H
         have c11b0 : decide (((rd_T30 l1 x6_1).f1) < (l0.length : Int)) = true := decide_eq_true c11
         clear c11
         have H' := mk0 H
         clear H
         have p522 : 0 ≤ (x6_1 : Int) := od_ (by with_reducible assumption)
         have q522 : x6_1 < (l1.length : Int) := od_ (by with_reducible assumption)
         obtain ⟨ad522, e522, hx522_0, hx522_1, hx522_2⟩ := at_T30 HR1.out x6_1 p522 q522
         (try rw [← Nbq8.out] at hx522_2)
         cases e522
         replace hx522_0 := (HB.out.cell (World.block_lt_of_cell? w _ hx522_0)).trans hx522_0
         replace hx522_1 := (HB.out.cell (World.block_lt_of_cell? w _ hx522_1)).trans hx522_1
         replace hx522_2 := (HB.out.cell (World.block_lt_of_cell? w _ hx522_2)).trans hx522_2
         replace p522 := eq_true p522
         replace q522 := eq_true q522
         have p523 : 0 ≤ (x6_1 : Int) := od_ (by with_reducible assumption)
         have q523 : x6_1 < (l1.length : Int) := od_ (by with_reducible assumption)
         obtain ⟨ad523, e523, hx523_0, hx523_1, hx523_2⟩ := at_T30 HR1.out x6_1 p523 q523
         (try rw [← Nbq8.out] at hx523_2)
         obtain rfl : ad522 = ad523 := (by injection e523)
         replace hx523_0 := (HB.out.cell (World.block_lt_of_cell? w _ hx523_0)).trans hx523_0
         replace hx523_1 := (HB.out.cell (World.block_lt_of_cell? w _ hx523_1)).trans hx523_1
         replace hx523_2 := (HB.out.cell (World.block_lt_of_cell? w _ hx523_2)).trans hx523_2
         replace p523 := eq_true p523
         replace q523 := eq_true q523
         have p524 : 0 ≤ (((rd_T30 l1 x6_1).f1) : Int) := od_ (by with_reducible assumption)
         have q524 : ((rd_T30 l1 x6_1).f1) < (l0.length : Int) := od_ (by with_reducible assumption)
         obtain ⟨ad524, A524_1, c524_1, e524, hx524_0, hx524_1, hx524_2, hx524_3, hl524_1, hi524_1⟩ := at_T41 HR0.out ((rd_T30 l1 x6_1).f1) p524 q524
         cases e524
         replace hx524_0 := (HB.out.cell (World.block_lt_of_cell? w _ hx524_0)).trans hx524_0
         replace hx524_1 := (HB.out.cell (World.block_lt_of_cell? w _ hx524_1)).trans hx524_1
         replace hx524_2 := (HB.out.cell (World.block_lt_of_cell? w _ hx524_2)).trans hx524_2
         replace hx524_3 := (HB.out.cell (World.block_lt_of_cell? w _ hx524_3)).trans hx524_3
         have HR524_1 := mk0 hi524_1
         have HC524_1 := mk0 hl524_1
         clear hi524_1 hl524_1
         replace p524 := eq_true p524
         replace q524 := eq_true q524
         go_wp2
         go_roundg k1
         case measure => have := HK1.out; omega
         case rel => exact ⟨(wrap64 (x5_1 + ((rd_T41 l0 ((rd_T30 l1 x6_1).f1)).f0))), (wrap64 (x6_1 + 1)), (by first | rfl | (simp; done) | (simp [*]; done)), (by first | rfl | (simp; done) | (simp [*]; done)), H', ⟨by have := HK1.out; omega⟩, ⟨by with_reducible repeat (first | exact HB.out | apply ba_ | apply bn_ | apply bd_)⟩⟩
        ·
         rw [if_neg c11] at H
         exact nn_ H
       ·
        rw [if_neg c10] at H
        exact nn_ H
      ·
       replace c9 := Bool.eq_false_iff.mpr c9
       subst c9
       rw [if_neg (show ¬ (false = true) by decide)] at H
       have H' := mk0 H
       clear H
       have p522 : 0 ≤ (x6_1 : Int) := od_ (by with_reducible assumption)
       have q522 : x6_1 < (l1.length : Int) := od_ (by with_reducible assumption)
       obtain ⟨ad522, e522, hx522_0, hx522_1, hx522_2⟩ := at_T30 HR1.out x6_1 p522 q522
       (try rw [← Nbq8.out] at hx522_2)
       cases e522
       replace hx522_0 := (HB.out.cell (World.block_lt_of_cell? w _ hx522_0)).trans hx522_0
       replace hx522_1 := (HB.out.cell (World.block_lt_of_cell? w _ hx522_1)).trans hx522_1
       replace hx522_2 := (HB.out.cell (World.block_lt_of_cell? w _ hx522_2)).trans hx522_2
       replace p522 := eq_true p522
       replace q522 := eq_true q522
       go_wp2
       go_roundg k1
       case measure => have := HK1.out; omega
       case rel => exact ⟨(x5_1), (wrap64 (x6_1 + 1)), (by first | rfl | (simp; done) | (simp [*]; done)), (by first | rfl | (simp; done) | (simp [*]; done)), H', ⟨by have := HK1.out; omega⟩, ⟨by with_reducible repeat (first | exact HB.out | apply ba_ | apply bn_ | apply bd_)⟩⟩
     ·
      rw [if_neg c7] at H
      exact nn_ H
    ·
     rw [if_neg c6] at H
     have c6b0 : decide (x6_1 < (l1.length : Int)) = false := decide_eq_false c6
     clear c6
     obtain rfl := Option.some.inj H
     go_wp2
     go_ret
     exact ⟨by first | rfl | (simp [errW_none, errW_some] <;> rfl) | (simp [*, errW_none, errW_some] <;> rfl), by with_reducible repeat (first | exact HB.out | apply ba_ | apply bn_ | apply bd_)⟩
 ·
  replace c4 := Bool.eq_false_iff.mpr c4
  subst c4
  rw [if_neg (show ¬ (false = true) by decide)] at H
  obtain rfl := Option.some.inj H
  go_enter Tryd.func21, Tryd.ntmps21
  go_wp2_with (first | ((with_reducible refine gate_callee (f := 31) rfl ?_); refine goesL_ (some 9) rfl rfl Tryd.func31 (by kernel_rfl) rfl #[.slice A0 l0.length c0, .slice A1 l1.length c1] rfl (by (try simp only [List.map_toArray, List.map_cons, List.map_nil]); first | done | rfl | (simp only [List.length_drop, List.length_take]; rfl)) ?_; (with_reducible refine (spec_validLog.calls k _ _ l0 _ _ l1 false _ ?side1 ?side2 ?side3 ?side4 A3.out).mono ?_); (case side1 => repeat (first | exact HR0.out | (with_reducible first | refine Ca_ ?_ _ | refine Cn_ ?_ _ | refine Cd_ ?_))); (case side2 => exact HC0.out); (case side3 => repeat (first | exact HR1.out | (with_reducible first | refine Ca_ ?_ _ | refine Cn_ ?_ _ | refine Cd_ ?_))); (case side4 => exact HC1.out); rintro e w12 ⟨rfl, hb⟩; refine ⟨_, rfl, ?_⟩; replace HB := mk0 (below_step (by with_reducible repeat (first | exact HB.out | apply ba_ | apply bn_ | apply bd_)) hb); clear hb))
  go_ret
  exact ⟨by first | rfl | (simp [errW_none, errW_some] <;> rfl) | (simp [*, errW_none, errW_some] <;> rfl), by with_reducible repeat (first | exact HB.out | apply ba_ | apply bn_ | apply bd_)⟩
def laws_allTime.l0 : Nat → List (S41) → Int → Int → Option (Int)
 | 0, _, _, _ => none
 | k + 1, x0, x3, x4 => if x4 < (x0.length : Int) then (if 0 ≤ x4 then (laws_allTime.l0 k x0 (wrap64 (x3 + ((rd_T41 x0 x4).f0))) (wrap64 (x4 + 1))) else (none)) else (some x3)
def laws_allTime.f (k : Nat) (l0 : List (S41)) : Option (Int) := laws_allTime.l0 k l0 0 0
set_option maxHeartbeats 8000000 in
set_option maxRecDepth 100000 in
theorem laws_allTime.calls (k : Nat) (A0 : Option Addr) (c0 : Nat) (l0 : List (S41)) (r : Int) (w : World) (hr0 : Kd.C k41 w A0 l0.length l0) (hc0 : l0.length ≤ c0) (h : laws_allTime.f k l0 = some r) :
  Calls Tryd.prog 26 #[.slice A0 l0.length c0] w fun e w' => e = .returned (.int .i64 r) ∧ Drawn0 w w' := by
 have HR0 := mk0 hr0
 have HC0 := mk0 hc0
 clear hr0 hc0
 have H : (laws_allTime.l0 k l0 0 0) = some r := h
 clear h
 have H' := mk0 H
 clear H
 go_enter Tryd.func26, Tryd.ntmps26
 go_wp2
 go_loopg [3, 4] k (fun kq v3 v4 w' => ∃ (x3_1 : Int) (x4_1 : Int), v3 = .int .i64 x3_1 ∧ v4 = .int .i64 x4_1 ∧ Aside0 (laws_allTime.l0 kq l0 x3_1 x4_1 = some r) ∧ Aside0 (kq ≤ k) ∧ Drawn0 w w')
 case atStart => exact ⟨(0), (0), (by first | rfl | (simp; done) | (simp [*]; done)), (by first | rfl | (simp; done) | (simp [*]; done)), H', ⟨Nat.le_refl _⟩, by repeat (first | exact Drawn0.refl _ | apply Drawn0.step)⟩
 case round =>
  clear H'
  obtain ⟨x3_1, x4_1, rfl, rfl, HA, HK1, ⟨m1, rfl⟩⟩ := hrel
  cases gk with
  | zero => exact absurd HA.out (by simp [laws_allTime.l0])
  | succ k1 =>
   have H := HA.out
   clear HA
   simp only [laws_allTime.l0] at H
   by_cases c2 : x4_1 < (l0.length : Int)
   ·
    rw [if_pos c2] at H
    have c2b0 : decide (x4_1 < (l0.length : Int)) = true := decide_eq_true c2
    clear c2
    by_cases c3 : 0 ≤ x4_1
    ·
     rw [if_pos c3] at H
     have c3b0 : decide (0 ≤ x4_1) = true := decide_eq_true c3
     clear c3
     have H' := mk0 H
     clear H
     have p528 : 0 ≤ (x4_1 : Int) := od_ (by with_reducible assumption)
     have q528 : x4_1 < (l0.length : Int) := od_ (by with_reducible assumption)
     obtain ⟨ad528, A528_1, c528_1, e528, hx528_0, hx528_1, hx528_2, hx528_3, hl528_1, hi528_1⟩ := at_T41 HR0.out x4_1 p528 q528
     cases e528
     have HR528_1 := mk0 hi528_1
     have HC528_1 := mk0 hl528_1
     clear hi528_1 hl528_1
     replace p528 := eq_true p528
     replace q528 := eq_true q528
     go_wp2
     go_roundg k1
     case measure => have := HK1.out; omega
     case rel => exact ⟨(wrap64 (x3_1 + ((rd_T41 l0 x4_1).f0))), (wrap64 (x4_1 + 1)), (by first | rfl | (simp; done) | (simp [*]; done)), (by first | rfl | (simp; done) | (simp [*]; done)), H', ⟨by have := HK1.out; omega⟩, by repeat (first | exact Drawn0.refl _ | apply Drawn0.step)⟩
    ·
     rw [if_neg c3] at H
     exact nn_ H
   ·
    rw [if_neg c2] at H
    have c2b0 : decide (x4_1 < (l0.length : Int)) = false := decide_eq_false c2
    clear c2
    obtain rfl := Option.some.inj H
    go_wp2
    go_ret
    exact ⟨by first | rfl | (simp; done) | (simp [*]; done), by repeat (first | exact Drawn0.refl _ | apply Drawn0.step)⟩
mutual
def laws_FnBusyTime.j0 : Nat → List (S41) → List (S30) → Int → Bool → Option (Bool)
 | 0, _, _, _, _ => none
 | k + 1, x3, x4, x5, x28 => if x28 = true then ((spec_BusyTime.f k x3 x4).bind fun t537 => (some (x5 == t537))) else ((impl_DoneBy.f k x3 x4 200).bind fun t538 => (laws_FnBusyTime.l0 k x3 x5 t538 0 0))
def laws_FnBusyTime.l0 : Nat → List (S41) → Int → List Int → Int → Int → Option (Bool)
 | 0, _, _, _, _, _ => none
 | k + 1, x3, x5, x6, x7, x8 => if x8 < (x6.length : Int) then (if 0 ≤ x8 then (if (rd x6 x8) < 0 then (some false) else (if (rd x6 x8) ≥ (x3.length : Int) then (some false) else (if 0 ≤ (rd x6 x8) then (if (rd x6 x8) < (x3.length : Int) then (laws_FnBusyTime.l0 k x3 x5 x6 (wrap64 (x7 + ((rd_T41 x3 (rd x6 x8)).f0))) (wrap64 (x8 + 1))) else (none)) else (none)))) else (none)) else (if x7 = x5 then ((laws_allTime.f k x3).bind fun t545 => (some (decide (x5 ≤ t545)))) else (some false))
end
def laws_FnBusyTime.f (k : Nat) (l0 : List Int) : Option (Bool) := if (l0.length : Int) > 1048576 then (some true) else ((spec_DrawBusyTime.f k l0).bind fun bt529 => ((impl_BusyTime.f k bt529.1 bt529.2).bind fun t535 => ((spec_BusyTime.f k bt529.1 bt529.2).bind fun t536 => (if t535 = t536 then (laws_FnBusyTime.j0 k bt529.1 bt529.2 t535 (decide (t535 < 0))) else (laws_FnBusyTime.j0 k bt529.1 bt529.2 t535 true)))))
set_option maxHeartbeats 8000000 in
set_option maxRecDepth 100000 in
theorem laws_FnBusyTime.calls (k : Nat) (A0 : Option Addr) (c0 : Nat) (l0 : List Int) (r : Bool) (w : World) (hT : Tab w) (hr0 : Kd.C (Kd.int .u8) w A0 l0.length l0) (hc0 : l0.length ≤ c0) (h : laws_FnBusyTime.f k l0 = some r) :
  Calls Tryd.prog 8 #[.slice A0 l0.length c0] w fun e w' => e = .returned (.bool r) ∧ Below w.heap.size w w' := by
 have HT := mk0 hT
 clear hT
 have HR0 := mk0 hr0
 have HC0 := mk0 hc0
 clear hr0 hc0
 have HB := mk0 (Below.refl w.heap.size w)
 have H : (if (l0.length : Int) > 1048576 then (some true) else ((spec_DrawBusyTime.f k l0).bind fun bt529 => ((impl_BusyTime.f k bt529.1 bt529.2).bind fun t535 => ((spec_BusyTime.f k bt529.1 bt529.2).bind fun t536 => (if t535 = t536 then (laws_FnBusyTime.j0 k bt529.1 bt529.2 t535 (decide (t535 < 0))) else (laws_FnBusyTime.j0 k bt529.1 bt529.2 t535 true)))))) = some r := h
 clear h
 by_cases c2 : (l0.length : Int) > 1048576
 ·
  rw [if_pos c2] at H
  have c2b0 : decide (1048576 < (l0.length : Int)) = true := decide_eq_true c2
  have c2b1 : decide (1048576 < l0.length) = true := decide_eq_true (by omega)
  clear c2
  obtain rfl := Option.some.inj H
  go_enter Tryd.func8, Tryd.ntmps8
  go_wp2
  go_ret
  exact ⟨by first | rfl | (simp [errW_none, errW_some] <;> rfl) | (simp [*, errW_none, errW_some] <;> rfl), by with_reducible repeat (first | exact HB.out | apply ba_ | apply bn_ | apply bd_)⟩
 ·
  rw [if_neg c2] at H
  have c2b0 : decide (1048576 < (l0.length : Int)) = false := decide_eq_false c2
  have c2b1 : decide (1048576 < l0.length) = false := decide_eq_false (by omega)
  clear c2
  replace H := bE_ H
  obtain ⟨⟨t529, t532⟩, A30, H⟩ := H
  have A3 := mk0 A30
  clear A30
  replace H := bE_ H
  obtain ⟨t535, A40, H⟩ := H
  have A4 := mk0 A40
  clear A40
  have HC5 := mk0 H
  clear H
  go_enter Tryd.func8, Tryd.ntmps8
  go_upto_region 5 with (first | ((with_reducible refine gate_callee (f := 19) rfl ?_); refine goesL_ (some 14) rfl rfl Tryd.func19 (by kernel_rfl) rfl #[.slice A0 l0.length c0] rfl (by (try simp only [List.map_toArray, List.map_cons, List.map_nil]); first | done | rfl | (simp only [List.length_drop, List.length_take]; rfl)) ?_; (with_reducible refine (spec_DrawBusyTime.calls k _ _ l0 t529 t532 _ ?side1 ?side2 A3.out).mono ?_); (case side1 => repeat (first | exact HR0.out | (with_reducible first | refine Ca_ ?_ _ | refine Cn_ ?_ _ | refine Cd_ ?_))); (case side2 => exact HC0.out); rintro e w6 ⟨v530, v533, rfl, ho0, ho1, hb⟩; refine ⟨_, rfl, ?_⟩; have HO531 := mk0 (Kd.N_lower (Kd.N_mono (ok' := fun k_ => some k_ ≠ (v533 : Value).ownBlock) ho0 (fun k_ hk_ => hk_.2)) (below_size (by with_reducible repeat (first | exact HB.out | apply ba_ | apply bn_ | apply bd_)))); have HO534 := mk0 (Kd.R_lower (Kd.R_mono (ok' := fun k_ => True) ho1 (fun _ hk_ => trivial)) (below_size (by with_reducible repeat (first | exact HB.out | apply ba_ | apply bn_ | apply bd_)))); replace HB := mk0 (below_step (by with_reducible repeat (first | exact HB.out | apply ba_ | apply bn_ | apply bd_)) hb); clear hb ho0 ho1; obtain ⟨Ao7, co7, eo7⟩ := Kd.N_slice HO531.out; subst eo7; obtain ⟨Ao8, co8, eo8⟩ := Kd.R_slice HO534.out; subst eo8) | ((with_reducible refine gate_callee (f := 20) rfl ?_); refine goesL_ (some 19) rfl rfl Tryd.func20 (by kernel_rfl) rfl #[.slice Ao7 t529.length co7, .slice Ao8 t532.length co8] rfl (by (try simp only [List.map_toArray, List.map_cons, List.map_nil]); first | done | rfl | (simp only [List.length_drop, List.length_take]; rfl)) ?_; (with_reducible refine (impl_BusyTime.calls k _ _ t529 _ _ t532 t535 _ ?side1 ?side2 ?side3 ?side4 ?side99 A4.out).mono ?_); (case side99 => exact Tab.keep HT.out HT.out.lt (by with_reducible repeat (first | exact HB.out | apply ba_ | apply bn_ | apply bd_))); (case side1 => repeat (first | exact (Kd.N_reads' HO531.out).2.2 | (with_reducible first | refine Ca_ ?_ _ | refine Cn_ ?_ _ | refine Cd_ ?_))); (case side2 => exact (Kd.N_reads' HO531.out).2.1); (case side3 => repeat (first | exact (Kd.R_reads' HO534.out).2.2 | (with_reducible first | refine Ca_ ?_ _ | refine Cn_ ?_ _ | refine Cd_ ?_))); (case side4 => exact (Kd.R_reads' HO534.out).2.1); rintro e w9 ⟨rfl, hb⟩; refine ⟨_, rfl, ?_⟩; replace HO531 := mk0 (Kd.N_below (by (with_reducible repeat (first | apply Na_ | apply Nn_ | apply Nd_)); exact HO531.out) hb); replace HO534 := mk0 (Kd.R_below (by (with_reducible repeat (first | apply Ra_ | apply Rn_ | apply Rd_)); exact HO534.out) hb); replace HB := mk0 (below_step (by with_reducible repeat (first | exact HB.out | apply ba_ | apply bn_ | apply bd_)) hb); clear hb))
  (try simp only [Act.put, List.setIfInBounds_toArray, List.set_cons_zero, List.set_cons_succ])
  go_cut [28] (fun v28 wc => ∃ (kq : Nat) (x28_4 : Bool), v28 = .bool x28_4 ∧ Aside0 (laws_FnBusyTime.j0 kq t529 t532 t535 x28_4 = some r) ∧ Aside0 (kq ≤ k) ∧ Aside0 (Kd.N k41 41 wc w.heap.size (fun k_ => some k_ ≠ ((.slice Ao8 t532.length co8) : Value).ownBlock) (.slice Ao7 t529.length co7) t529) ∧ Aside0 (Kd.R k30 30 wc w.heap.size (fun _ => True) (.slice Ao8 t532.length co8) t532) ∧ Aside0 (Below w.heap.size w wc))
  case first =>
   have H := HC5.out
   clear HC5
   replace H := bE_ H
   obtain ⟨t536, A100, H⟩ := H
   have A10 := mk0 A100
   clear A100
   by_cases c11 : t535 = t536
   ·
    rw [if_pos c11] at H
    have c11b0 : (t535 == t536) = true := beq_iff_eq.mpr c11
    have c11b1 : (t535 != t536) = false := bne_eq_false_iff_eq.mpr c11
    clear c11
    (first | rw [c11b0] | (simp only [i64_w, i32_w]; rw [c11b0]) | skip)
    have H' := mk0 H
    clear H
    go_wp2_with (first | ((with_reducible refine gate_callee (f := 21) rfl ?_); refine goesL_ (some 23) rfl rfl Tryd.func21 (by kernel_rfl) rfl #[.slice Ao7 t529.length co7, .slice Ao8 t532.length co8] rfl (by (try simp only [List.map_toArray, List.map_cons, List.map_nil]); first | done | rfl | (simp only [List.length_drop, List.length_take]; rfl)) ?_; (with_reducible refine (spec_BusyTime.calls k _ _ t529 _ _ t532 t536 _ ?side1 ?side2 ?side3 ?side4 A10.out).mono ?_); (case side1 => repeat (first | exact (Kd.N_reads' HO531.out).2.2 | (with_reducible first | refine Ca_ ?_ _ | refine Cn_ ?_ _ | refine Cd_ ?_))); (case side2 => exact (Kd.N_reads' HO531.out).2.1); (case side3 => repeat (first | exact (Kd.R_reads' HO534.out).2.2 | (with_reducible first | refine Ca_ ?_ _ | refine Cn_ ?_ _ | refine Cd_ ?_))); (case side4 => exact (Kd.R_reads' HO534.out).2.1); rintro e w12 ⟨rfl, hb⟩; refine ⟨_, rfl, ?_⟩; replace HO531 := mk0 (Kd.N_below (by (with_reducible repeat (first | apply Na_ | apply Nn_ | apply Nd_)); exact HO531.out) hb); replace HO534 := mk0 (Kd.R_below (by (with_reducible repeat (first | apply Ra_ | apply Rn_ | apply Rd_)); exact HO534.out) hb); replace HB := mk0 (below_step (by with_reducible repeat (first | exact HB.out | apply ba_ | apply bn_ | apply bd_)) hb); clear hb))
    go_meet
    case rel => exact ⟨_, (decide (t535 < 0)), (by first | rfl | (simp; done) | (simp [*]; done)), H', ⟨by first | omega | exact Nat.le_refl _⟩, ⟨by (with_reducible repeat (first | apply Na_ | apply Nn_ | apply Nd_)); exact HO531.out⟩, ⟨by (with_reducible repeat (first | apply Ra_ | apply Rn_ | apply Rd_)); exact HO534.out⟩, ⟨by with_reducible repeat (first | exact HB.out | apply ba_ | apply bn_ | apply bd_)⟩⟩
   ·
    rw [if_neg c11] at H
    have c11b0 : (t535 == t536) = false := beq_eq_false_iff_ne.mpr c11
    have c11b1 : (t535 != t536) = true := bne_iff_ne.mpr c11
    (first | rw [c11b0] | (simp only [i64_w, i32_w]; rw [c11b0]) | skip)
    have H' := mk0 H
    clear H
    go_wp2_with (first | ((with_reducible refine gate_callee (f := 21) rfl ?_); refine goesL_ (some 23) rfl rfl Tryd.func21 (by kernel_rfl) rfl #[.slice Ao7 t529.length co7, .slice Ao8 t532.length co8] rfl (by (try simp only [List.map_toArray, List.map_cons, List.map_nil]); first | done | rfl | (simp only [List.length_drop, List.length_take]; rfl)) ?_; (with_reducible refine (spec_BusyTime.calls k _ _ t529 _ _ t532 t536 _ ?side1 ?side2 ?side3 ?side4 A10.out).mono ?_); (case side1 => repeat (first | exact (Kd.N_reads' HO531.out).2.2 | (with_reducible first | refine Ca_ ?_ _ | refine Cn_ ?_ _ | refine Cd_ ?_))); (case side2 => exact (Kd.N_reads' HO531.out).2.1); (case side3 => repeat (first | exact (Kd.R_reads' HO534.out).2.2 | (with_reducible first | refine Ca_ ?_ _ | refine Cn_ ?_ _ | refine Cd_ ?_))); (case side4 => exact (Kd.R_reads' HO534.out).2.1); rintro e w13 ⟨rfl, hb⟩; refine ⟨_, rfl, ?_⟩; replace HO531 := mk0 (Kd.N_below (by (with_reducible repeat (first | apply Na_ | apply Nn_ | apply Nd_)); exact HO531.out) hb); replace HO534 := mk0 (Kd.R_below (by (with_reducible repeat (first | apply Ra_ | apply Rn_ | apply Rd_)); exact HO534.out) hb); replace HB := mk0 (below_step (by with_reducible repeat (first | exact HB.out | apply ba_ | apply bn_ | apply bd_)) hb); clear hb))
    go_meet
    case rel => exact ⟨_, (true), (by first | rfl | (simp; done) | (simp [*]; done)), H', ⟨by first | omega | exact Nat.le_refl _⟩, ⟨by (with_reducible repeat (first | apply Na_ | apply Nn_ | apply Nd_)); exact HO531.out⟩, ⟨by (with_reducible repeat (first | apply Ra_ | apply Rn_ | apply Rd_)); exact HO534.out⟩, ⟨by with_reducible repeat (first | exact HB.out | apply ba_ | apply bn_ | apply bd_)⟩⟩
  case rest =>
   clear HC5
   try clear c1
   try clear c2
   try clear c2b0
   try clear c2b1
   try clear p2
   try clear c8
   try clear c11
   try clear c11b0
   try clear c11b1
   obtain ⟨kq, x28_4, rfl, HA, HJ4, HO_3, HO_4, HB⟩ := hcut
   cases kq with
   | zero => exact absurd HA.out (by simp [laws_FnBusyTime.j0])
   | succ kj4 =>
    have H := HA.out
    clear HA
    simp only [laws_FnBusyTime.j0] at H
    by_cases c14 : x28_4 = true
    ·
     subst c14
     rw [if_pos rfl] at H
     replace H := bE_ H
     obtain ⟨t537, A150, H⟩ := H
     have A15 := mk0 A150
     clear A150
     obtain rfl := Option.some.inj H
     go_wp2_with (first | ((with_reducible refine gate_callee (f := 21) rfl ?_); refine goesL_ (some 32) rfl rfl Tryd.func21 (by kernel_rfl) rfl #[.slice Ao7 t529.length co7, .slice Ao8 t532.length co8] rfl (by (try simp only [List.map_toArray, List.map_cons, List.map_nil]); first | done | rfl | (simp only [List.length_drop, List.length_take]; rfl)) ?_; (with_reducible refine (spec_BusyTime.calls kj4 _ _ t529 _ _ t532 t537 _ ?side1 ?side2 ?side3 ?side4 A15.out).mono ?_); (case side1 => repeat (first | exact (Kd.N_reads' HO_3.out).2.2 | (with_reducible first | refine Ca_ ?_ _ | refine Cn_ ?_ _ | refine Cd_ ?_))); (case side2 => exact (Kd.N_reads' HO_3.out).2.1); (case side3 => repeat (first | exact (Kd.R_reads' HO_4.out).2.2 | (with_reducible first | refine Ca_ ?_ _ | refine Cn_ ?_ _ | refine Cd_ ?_))); (case side4 => exact (Kd.R_reads' HO_4.out).2.1); rintro e w16 ⟨rfl, hb⟩; refine ⟨_, rfl, ?_⟩; replace HO_3 := mk0 (Kd.N_below (by (with_reducible repeat (first | apply Na_ | apply Nn_ | apply Nd_)); exact HO_3.out) hb); replace HO_4 := mk0 (Kd.R_below (by (with_reducible repeat (first | apply Ra_ | apply Rn_ | apply Rd_)); exact HO_4.out) hb); replace HB := mk0 (below_step (by with_reducible repeat (first | exact HB.out | apply ba_ | apply bn_ | apply bd_)) hb); clear hb))
     go_ret
     exact ⟨by first | rfl | (simp [errW_none, errW_some] <;> rfl) | (simp [*, errW_none, errW_some] <;> rfl), by with_reducible repeat (first | exact HB.out | apply ba_ | apply bn_ | apply bd_)⟩
    ·
     replace c14 := Bool.eq_false_iff.mpr c14
     subst c14
     rw [if_neg (show ¬ (false = true) by decide)] at H
     replace H := bE_ H
     obtain ⟨t538, A170, H⟩ := H
     have A17 := mk0 A170
     clear A170
     have H' := mk0 H
     clear H
     go_wp2_with (first | ((with_reducible refine gate_callee (f := 25) rfl ?_); refine goesL_ (some 36) rfl rfl Tryd.func25 (by kernel_rfl) rfl #[.slice Ao7 t529.length co7, .slice Ao8 t532.length co8, .int .i64 200] rfl (by (try simp only [List.map_toArray, List.map_cons, List.map_nil]); first | done | rfl | (simp only [List.length_drop, List.length_take]; rfl)) ?_; (with_reducible refine (impl_DoneBy.calls kj4 _ _ t529 _ _ t532 200 t538 _ ?side1 ?side2 ?side3 ?side4 ?side99 A17.out).mono ?_); (case side99 => exact Tab.keep HT.out HT.out.lt (by with_reducible repeat (first | exact HB.out | apply ba_ | apply bn_ | apply bd_))); (case side1 => repeat (first | exact (Kd.N_reads' HO_3.out).2.2 | (with_reducible first | refine Ca_ ?_ _ | refine Cn_ ?_ _ | refine Cd_ ?_))); (case side2 => exact (Kd.N_reads' HO_3.out).2.1); (case side3 => repeat (first | exact (Kd.R_reads' HO_4.out).2.2 | (with_reducible first | refine Ca_ ?_ _ | refine Cn_ ?_ _ | refine Cd_ ?_))); (case side4 => exact (Kd.R_reads' HO_4.out).2.1); rintro e w18 ⟨v539, rfl, ho0, hb⟩; refine ⟨_, rfl, ?_⟩; replace HO_3 := mk0 (Kd.N_elder' (by (with_reducible repeat (first | apply Na_ | apply Nn_ | apply Nd_)); exact HO_3.out) (Kd.R_base ho0) hb); replace HO_4 := mk0 (Kd.R_below (by (with_reducible repeat (first | apply Ra_ | apply Rn_ | apply Rd_)); exact HO_4.out) hb); have HO540 := mk0 (Kd.R_lower ho0 (below_size (by with_reducible repeat (first | exact HB.out | apply ba_ | apply bn_ | apply bd_)))); replace HB := mk0 (below_step (by with_reducible repeat (first | exact HB.out | apply ba_ | apply bn_ | apply bd_)) hb); clear hb ho0))
     go_loopg [7, 8] kj4 (fun kq v7 v8 w' => ∃ (x7_2 : Int) (x8_2 : Int), v7 = .int .i64 x7_2 ∧ v8 = .int .i64 x8_2 ∧ Aside0 (laws_FnBusyTime.l0 kq t529 t535 t538 x7_2 x8_2 = some r) ∧ Aside0 (kq ≤ kj4) ∧ Aside0 (Kd.N k41 41 w' w.heap.size (fun k_ => some k_ ≠ (v539 : Value).ownBlock) (.slice Ao7 t529.length co7) t529) ∧ Aside0 (Kd.R (Kd.int .i64) 3 w' w.heap.size (fun _ => True) v539 t538) ∧ Aside0 (Below w.heap.size w w'))
     case atStart => exact ⟨(0), (0), (by first | rfl | (simp; done) | (simp [*]; done)), (by first | rfl | (simp; done) | (simp [*]; done)), H', ⟨Nat.le_refl _⟩, ⟨by (with_reducible repeat (first | apply Na_ | apply Nn_ | apply Nd_)); exact Kd.N_mono HO_3.out (fun _ hk => hk.2)⟩, ⟨by (with_reducible repeat (first | apply Ra_ | apply Rn_ | apply Rd_)); exact HO540.out⟩, ⟨by with_reducible repeat (first | exact HB.out | apply ba_ | apply bn_ | apply bd_)⟩⟩
     case round =>
      clear H'
      try clear c1
      try clear c2
      try clear c2b0
      try clear c2b1
      try clear p2
      try clear c8
      try clear c11
      try clear c11b0
      try clear c11b1
      try clear c14
      try clear p2
      obtain ⟨x7_2, x8_2, rfl, rfl, HA, HK2, HO_3, HO_6, HB⟩ := hrel
      cases gk with
      | zero => exact absurd HA.out (by simp [laws_FnBusyTime.l0])
      | succ k2 =>
       have H := HA.out
       clear HA
       simp only [laws_FnBusyTime.l0] at H
       by_cases c19 : x8_2 < (t538.length : Int)
       ·
        rw [if_pos c19] at H
        have c19b0 : decide (x8_2 < (t538.length : Int)) = true := decide_eq_true c19
        clear c19
        by_cases c20 : 0 ≤ x8_2
        ·
         rw [if_pos c20] at H
         have c20b0 : decide (0 ≤ x8_2) = true := decide_eq_true c20
         clear c20
         by_cases c21 : (rd t538 x8_2) < 0
         ·
          rw [if_pos c21] at H
          have c21b0 : decide ((rd t538 x8_2) < 0) = true := decide_eq_true c21
          clear c21
          obtain rfl := Option.some.inj H
          obtain ⟨Ao22, co22, eo22⟩ := Kd.R_slice HO_6.out
          subst eo22
          have p541 : 0 ≤ (x8_2 : Int) := od_ (by with_reducible assumption)
          have q541 : x8_2 < (t538.length : Int) := od_ (by with_reducible assumption)
          obtain ⟨ad541, e541, hx541_0⟩ := Kd.at_int (Kd.R_reads' HO_6.out).2.2 x8_2 p541 q541
          cases e541
          replace p541 := eq_true p541
          replace q541 := eq_true q541
          go_wp2
          go_ret
          exact ⟨by first | rfl | (simp [errW_none, errW_some] <;> rfl) | (simp [*, errW_none, errW_some] <;> rfl), by with_reducible repeat (first | exact HB.out | apply ba_ | apply bn_ | apply bd_)⟩
         ·
          rw [if_neg c21] at H
          have c21b0 : decide ((rd t538 x8_2) < 0) = false := decide_eq_false c21
          clear c21
          by_cases c23 : (rd t538 x8_2) ≥ (t529.length : Int)
          ·
           rw [if_pos c23] at H
           have c23b0 : decide ((t529.length : Int) ≤ (rd t538 x8_2)) = true := decide_eq_true c23
           clear c23
           obtain rfl := Option.some.inj H
           obtain ⟨Ao24, co24, eo24⟩ := Kd.R_slice HO_6.out
           subst eo24
           have p541 : 0 ≤ (x8_2 : Int) := od_ (by with_reducible assumption)
           have q541 : x8_2 < (t538.length : Int) := od_ (by with_reducible assumption)
           obtain ⟨ad541, e541, hx541_0⟩ := Kd.at_int (Kd.R_reads' HO_6.out).2.2 x8_2 p541 q541
           cases e541
           replace p541 := eq_true p541
           replace q541 := eq_true q541
           have p542 : 0 ≤ (x8_2 : Int) := od_ (by with_reducible assumption)
           have q542 : x8_2 < (t538.length : Int) := od_ (by with_reducible assumption)
           obtain ⟨ad542, e542, hx542_0⟩ := Kd.at_int (Kd.R_reads' HO_6.out).2.2 x8_2 p542 q542
           obtain rfl : ad541 = ad542 := (by injection e542)
           replace p542 := eq_true p542
           replace q542 := eq_true q542
           go_wp2
           go_ret
           exact ⟨by first | rfl | (simp [errW_none, errW_some] <;> rfl) | (simp [*, errW_none, errW_some] <;> rfl), by with_reducible repeat (first | exact HB.out | apply ba_ | apply bn_ | apply bd_)⟩
          ·
           rw [if_neg c23] at H
           have c23b0 : decide ((t529.length : Int) ≤ (rd t538 x8_2)) = false := decide_eq_false c23
           clear c23
           by_cases c25 : 0 ≤ (rd t538 x8_2)
           ·
            rw [if_pos c25] at H
            have c25b0 : decide (0 ≤ (rd t538 x8_2)) = true := decide_eq_true c25
            clear c25
            by_cases c26 : (rd t538 x8_2) < (t529.length : Int)
            ·
             rw [if_pos c26] at H
             have c26b0 : decide ((rd t538 x8_2) < (t529.length : Int)) = true := decide_eq_true c26
             clear c26
             have H' := mk0 H
             clear H
             obtain ⟨Ao27, co27, eo27⟩ := Kd.R_slice HO_6.out
             subst eo27
             have p541 : 0 ≤ (x8_2 : Int) := od_ (by with_reducible assumption)
             have q541 : x8_2 < (t538.length : Int) := od_ (by with_reducible assumption)
             obtain ⟨ad541, e541, hx541_0⟩ := Kd.at_int (Kd.R_reads' HO_6.out).2.2 x8_2 p541 q541
             cases e541
             replace p541 := eq_true p541
             replace q541 := eq_true q541
             have p542 : 0 ≤ (x8_2 : Int) := od_ (by with_reducible assumption)
             have q542 : x8_2 < (t538.length : Int) := od_ (by with_reducible assumption)
             obtain ⟨ad542, e542, hx542_0⟩ := Kd.at_int (Kd.R_reads' HO_6.out).2.2 x8_2 p542 q542
             obtain rfl : ad541 = ad542 := (by injection e542)
             replace p542 := eq_true p542
             replace q542 := eq_true q542
             have p543 : 0 ≤ (x8_2 : Int) := od_ (by with_reducible assumption)
             have q543 : x8_2 < (t538.length : Int) := od_ (by with_reducible assumption)
             obtain ⟨ad543, e543, hx543_0⟩ := Kd.at_int (Kd.R_reads' HO_6.out).2.2 x8_2 p543 q543
             obtain rfl : ad541 = ad543 := (by injection e543)
             replace p543 := eq_true p543
             replace q543 := eq_true q543
             have p544 : 0 ≤ ((rd t538 x8_2) : Int) := od_ (by with_reducible assumption)
             have q544 : (rd t538 x8_2) < (t529.length : Int) := od_ (by with_reducible assumption)
             obtain ⟨ad544, A544_1, c544_1, e544, hx544_0, hx544_1, hx544_2, hx544_3, hl544_1, hi544_1⟩ := at_T41 (Kd.N_reads' HO_3.out).2.2 (rd t538 x8_2) p544 q544
             cases e544
             obtain ⟨ce544, hce544, hMe544, hcc544⟩ := Kd.N_get HO_3.out z41 (rd t538 x8_2) p544 (by first | exact q544 | exact od_ (by with_reducible assumption) | (have e_ := (Kd.N_reads' HO_3.out).1; omega))
             obtain ⟨ua544_1, uc544_1, rfl, ul544_1, ge544_1⟩ := k41_openF hMe544
             have hv544_1 := hcc544 1 _ rfl
             rw [add_field _ _ 1 (by omega)] at hv544_1
             replace hv544_1 := Option.some.inj (hv544_1.symm.trans hx544_1)
             injection hv544_1 with hva_ hvn_ hvc_
             rw [hva_] at ge544_1
             rw [hvc_] at ul544_1
             have HL544_1 := mk0 (show Kd.V (Kd.int .i64) 3 _ w.heap.size _ _ ((rd_T41 t529 (rd t538 x8_2)).f1) from Kd.V_mk ul544_1 ge544_1)
             clear hva_ hvn_ hvc_ ge544_1 ul544_1
             clear hcc544 hce544
             have HR544_1 := mk0 hi544_1
             have HC544_1 := mk0 hl544_1
             clear hi544_1 hl544_1
             replace p544 := eq_true p544
             replace q544 := eq_true q544
             go_wp2
             go_roundg k2
             case measure => have := HJ4.out; have := HK2.out; omega
             case rel => exact ⟨(wrap64 (x7_2 + ((rd_T41 t529 (rd t538 x8_2)).f0))), (wrap64 (x8_2 + 1)), (by first | rfl | (simp; done) | (simp [*]; done)), (by first | rfl | (simp; done) | (simp [*]; done)), H', ⟨by have := HJ4.out; have := HK2.out; omega⟩, ⟨by (with_reducible repeat (first | apply Na_ | apply Nn_ | apply Nd_)); exact HO_3.out⟩, ⟨by (with_reducible repeat (first | apply Ra_ | apply Rn_ | apply Rd_)); exact HO_6.out⟩, ⟨by with_reducible repeat (first | exact HB.out | apply ba_ | apply bn_ | apply bd_)⟩⟩
            ·
             rw [if_neg c26] at H
             exact nn_ H
           ·
            rw [if_neg c25] at H
            exact nn_ H
        ·
         rw [if_neg c20] at H
         exact nn_ H
       ·
        rw [if_neg c19] at H
        have c19b0 : decide (x8_2 < (t538.length : Int)) = false := decide_eq_false c19
        clear c19
        by_cases c28 : x7_2 = t535
        ·
         rw [if_pos c28] at H
         have c28b0 : (x7_2 == t535) = true := beq_iff_eq.mpr c28
         have c28b1 : (x7_2 != t535) = false := bne_eq_false_iff_eq.mpr c28
         clear c28
         replace H := bE_ H
         obtain ⟨t545, A290, H⟩ := H
         have A29 := mk0 A290
         clear A290
         obtain rfl := Option.some.inj H
         obtain ⟨Ao30, co30, eo30⟩ := Kd.R_slice HO_6.out
         subst eo30
         go_wp2_with (first | (go_at_call 26; (with_reducible refine (laws_allTime.calls k2 _ _ t529 t545 _ ?side1 ?side2 A29.out).mono ?_); (case side1 => repeat (first | exact (Kd.N_reads' HO_3.out).2.2 | (with_reducible first | refine Ca_ ?_ _ | refine Cn_ ?_ _ | refine Cd_ ?_))); (case side2 => exact (Kd.N_reads' HO_3.out).2.1); rintro e w' ⟨rfl, ⟨nd, rfl⟩⟩))
         go_ret
         exact ⟨by first | rfl | (simp [errW_none, errW_some] <;> rfl) | (simp [*, errW_none, errW_some] <;> rfl), by with_reducible repeat (first | exact HB.out | apply ba_ | apply bn_ | apply bd_)⟩
        ·
         rw [if_neg c28] at H
         have c28b0 : (x7_2 == t535) = false := beq_eq_false_iff_ne.mpr c28
         have c28b1 : (x7_2 != t535) = true := bne_iff_ne.mpr c28
         obtain rfl := Option.some.inj H
         obtain ⟨Ao31, co31, eo31⟩ := Kd.R_slice HO_6.out
         subst eo31
         go_wp2
         go_ret
         exact ⟨by first | rfl | (simp [errW_none, errW_some] <;> rfl) | (simp [*, errW_none, errW_some] <;> rfl), by with_reducible repeat (first | exact HB.out | apply ba_ | apply bn_ | apply bd_)⟩
end Go.Proofs.YtlcdffhhimbbmaaDoor.PFnValidLog
