/- The body of the law FnBusyTimeLess, walked: cut by a program of mine from what print.sh printed, with my contracts of what it calls. -/
import Derived.Test.YtlcdffhhimbbmaaDoorShimBusy
namespace Go.Proofs.YtlcdffhhimbbmaaDoor.PFnValidLog
open Go Go.RowKit Go.Proofs.YtlcdffhhimbbmaaDoorW.PrintWords Go.Proofs.YtlcdffhhimbbmaaDoorW.PrintLast Go.Proofs.YtlcdffhhimbbmaaDoorW.PrintMore
attribute [local go_sem] max2_int min2_int max_two min_two max_three min_three max_four min_four
set_option linter.unusedVariables false
set_option linter.unusedSimpArgs false
def spec_DrawBusyTime.f (k : Nat) (l0 : List Int) : Option ((List (S41)) × (List (S30))) := (spec_DrawValidLog.f k l0).bind fun bt485 => (some (bt485.1, bt485.2))
set_option maxHeartbeats 8000000 in
set_option maxRecDepth 100000 in
theorem spec_DrawBusyTime.calls (k : Nat) (A0 : Option Addr) (c0 : Nat) (l0 : List Int) (r1 : List (S41)) (r2 : List (S30)) (w : World) (hr0 : Kd.C (Kd.int .u8) w A0 l0.length l0) (hc0 : l0.length ≤ c0) (h : spec_DrawBusyTime.f k l0 = some (r1, r2)) :
  Calls Tryd.prog 19 #[.slice A0 l0.length c0] w fun e w' => ∃ v0_ v1_ : Value, e = .returned (.tuple #[v0_, v1_]) ∧ Kd.N k41 41 w' w.heap.size (fun k_ => (w.heap.size ≤ k_) ∧ some k_ ≠ (v1_ : Value).ownBlock) v0_ r1 ∧ Kd.R k30 30 w' w.heap.size (fun k_ => (w.heap.size ≤ k_)) v1_ r2 ∧ Below w.heap.size w w' := by
 have HR0 := mk0 hr0
 have HC0 := mk0 hc0
 clear hr0 hc0
 have HB := mk0 (Below.refl w.heap.size w)
 have H : ((spec_DrawValidLog.f k l0).bind fun bt485 => (some (bt485.1, bt485.2))) = some (r1, r2) := h
 clear h
 replace H := Option.bind_eq_some_iff.mp H
 obtain ⟨⟨t485, t488⟩, A20, H⟩ := H
 have A2 := mk0 A20
 clear A20
 simp only [Option.some.injEq, Prod.mk.injEq] at H
 obtain ⟨rfl, rfl⟩ := H
 go_enter Tryd.func19, Tryd.ntmps19
 go_wp2_with (first | ((with_reducible refine gate_callee (f := 9) rfl ?_); refine goesL_ (some 5) rfl rfl Tryd.func9 (by kernel_rfl) rfl #[.slice A0 l0.length c0] rfl (by (try simp only [List.map_toArray, List.map_cons, List.map_nil]); first | done | rfl | (simp only [List.length_drop, List.length_take]; rfl)) ?_; (with_reducible refine (spec_DrawValidLog.calls k _ _ l0 t485 t488 _ ?side1 ?side2 A2.out).mono ?_); (case side1 => repeat (first | exact HR0.out | (with_reducible refine Kd.C_alloc ?_ _) | (with_reducible refine Kd.C_drewN ?_ _) | (with_reducible refine Kd.C_drew ?_))); (case side2 => exact HC0.out); rintro e w3 ⟨v486, v489, rfl, ho0, ho1, hb⟩; refine ⟨_, rfl, ?_⟩; have HO487 := mk0 (Kd.N_lower (Kd.N_mono (ok' := fun k_ => (w.heap.size ≤ k_) ∧ some k_ ≠ (v489 : Value).ownBlock) ho0 (fun k_ hk_ => ⟨(Nat.le_trans (below_size (by repeat (first | (with_reducible first | exact HB.out | apply ba_ | apply bn_ | apply bd_) | exact HB.out))) hk_.1), hk_.2⟩)) (below_size (by repeat (first | (with_reducible first | exact HB.out | apply ba_ | apply bn_ | apply bd_) | exact HB.out)))); have HO490 := mk0 (Kd.R_lower (Kd.R_newM (M := fun k_ => (w.heap.size ≤ k_)) (Kd.R_mono (ok' := fun k_ => True) ho1 (fun _ hk_ => trivial)) (below_size (by repeat (first | (with_reducible first | exact HB.out | apply ba_ | apply bn_ | apply bd_) | exact HB.out))) (fun k_ h_ => h_)) (below_size (by repeat (first | (with_reducible first | exact HB.out | apply ba_ | apply bn_ | apply bd_) | exact HB.out)))); replace HB := mk0 (below_step (by repeat (first | (with_reducible first | exact HB.out | apply ba_ | apply bn_ | apply bd_) | exact HB.out)) hb); clear hb ho0 ho1))
 go_ret2
 exact ⟨_, _, by first | rfl | (simp [errW_none, errW_some] <;> rfl) | (simp [*, errW_none, errW_some] <;> rfl), by (with_reducible repeat (first | apply Na_ | apply Nn_ | apply Nd_)); exact HO487.out, by (with_reducible repeat (first | apply Ra_ | apply Rn_ | apply Rd_)); exact Kd.R_mono HO490.out (fun _ hk => hk.1), by repeat (first | (with_reducible first | exact HB.out | apply ba_ | apply bn_ | apply bd_) | exact HB.out)⟩
def spec_BusyTime.l0 : Nat → List (S41) → List (S30) → Int → Int → Option (Int)
 | 0, _, _, _, _ => none
 | k + 1, x0, x1, x5, x6 => if x6 < (x1.length : Int) then (if 0 ≤ x6 then (if (rd_T30 x1 x6).f2 = true then (if 0 ≤ ((rd_T30 x1 x6).f1) then (if ((rd_T30 x1 x6).f1) < (x0.length : Int) then (spec_BusyTime.l0 k x0 x1 (wrap64 (x5 + ((rd_T41 x0 ((rd_T30 x1 x6).f1)).f0))) (wrap64 (x6 + 1))) else (none)) else (none)) else (spec_BusyTime.l0 k x0 x1 x5 (wrap64 (x6 + 1)))) else (none)) else (some x5)
def spec_BusyTime.f (k : Nat) (l0 : List (S41)) (l1 : List (S30)) : Option (Int) := (spec_validLog.f k l0 l1).bind fun t521 => (if t521 = true then (spec_BusyTime.l0 k l0 l1 0 0) else (some (-1)))
set_option maxHeartbeats 8000000 in
set_option maxRecDepth 100000 in
theorem spec_BusyTime.calls (k : Nat) (A0 : Option Addr) (c0 : Nat) (l0 : List (S41)) (A1 : Option Addr) (c1 : Nat) (l1 : List (S30)) (r : Int) (w : World) (hr0 : Kd.C k41 w A0 l0.length l0) (hc0 : l0.length ≤ c0) (hr1 : Kd.C k30 w A1 l1.length l1) (hc1 : l1.length ≤ c1) (h : spec_BusyTime.f k l0 l1 = some r) :
  Calls Tryd.prog 21 #[.slice A0 l0.length c0, .slice A1 l1.length c1] w fun e w' => e = .returned (.int .i64 r) ∧ Below w.heap.size w w' := by
 have HR0 := mk0 hr0
 have HC0 := mk0 hc0
 clear hr0 hc0
 have HR1 := mk0 hr1
 have HC1 := mk0 hc1
 clear hr1 hc1
 have HB := mk0 (Below.refl w.heap.size w)
 have H : ((spec_validLog.f k l0 l1).bind fun t521 => (if t521 = true then (spec_BusyTime.l0 k l0 l1 0 0) else (some (-1)))) = some r := h
 clear h
 replace H := Option.bind_eq_some_iff.mp H
 obtain ⟨t521, A30, H⟩ := H
 have A3 := mk0 A30
 clear A30
 by_cases c4 : t521 = true
 ·
  subst c4
  rw [if_pos rfl] at H
  have H' := mk0 H
  clear H
  go_enter Tryd.func21, Tryd.ntmps21
  go_wp2_with (first | ((with_reducible refine gate_callee (f := 31) rfl ?_); refine goesL_ (some 9) rfl rfl Tryd.func31 (by kernel_rfl) rfl #[.slice A0 l0.length c0, .slice A1 l1.length c1] rfl (by (try simp only [List.map_toArray, List.map_cons, List.map_nil]); first | done | rfl | (simp only [List.length_drop, List.length_take]; rfl)) ?_; (with_reducible refine (spec_validLog.calls k _ _ l0 _ _ l1 true _ ?side1 ?side2 ?side3 ?side4 A3.out).mono ?_); (case side1 => repeat (first | exact HR0.out | (with_reducible refine Kd.C_alloc ?_ _) | (with_reducible refine Kd.C_drewN ?_ _) | (with_reducible refine Kd.C_drew ?_))); (case side2 => exact HC0.out); (case side3 => repeat (first | exact HR1.out | (with_reducible refine Kd.C_alloc ?_ _) | (with_reducible refine Kd.C_drewN ?_ _) | (with_reducible refine Kd.C_drew ?_))); (case side4 => exact HC1.out); rintro e w5 ⟨rfl, hb⟩; refine ⟨_, rfl, ?_⟩; replace HB := mk0 (below_step (by repeat (first | (with_reducible first | exact HB.out | apply ba_ | apply bn_ | apply bd_) | exact HB.out)) hb); clear hb))
  go_loopg [5, 6] k (fun kq v5 v6 w' => ∃ (x5_1 : Int) (x6_1 : Int), v5 = .int .i64 x5_1 ∧ v6 = .int .i64 x6_1 ∧ Aside0 (spec_BusyTime.l0 kq l0 l1 x5_1 x6_1 = some r) ∧ Aside0 (kq ≤ k) ∧ Aside0 (Below w.heap.size w w'))
  case atStart => exact ⟨(0), (0), (by first | rfl | (simp; done) | (simp [*]; done)), (by first | rfl | (simp; done) | (simp [*]; done)), H', ⟨Nat.le_refl _⟩, ⟨by repeat (first | (with_reducible first | exact HB.out | apply ba_ | apply bn_ | apply bd_) | exact HB.out)⟩⟩
  case round =>
   clear H'
   try clear c1
   try clear c2
   try clear p2
   try clear c3
   try clear c4
   obtain ⟨x5_1, x6_1, rfl, rfl, HA, HK1, HB⟩ := hrel
   cases gk with
   | zero => exact absurd HA.out (by simp [spec_BusyTime.l0])
   | succ k1 =>
    have H := HA.out
    clear HA
    simp only [spec_BusyTime.l0] at H
    by_cases c6 : x6_1 < (l1.length : Int)
    ·
     rw [if_pos c6] at H
     have c6b0 : decide (x6_1 < (l1.length : Int)) = true := decide_eq_true c6
     clear c6
     by_cases c7 : 0 ≤ x6_1
     ·
      rw [if_pos c7] at H
      have c7b0 : decide (0 ≤ x6_1) = true := decide_eq_true c7
      clear c7
      obtain ⟨bq8, hbq8⟩ : ∃ b_ : Bool, b_ = ((rd_T30 l1 x6_1).f2) := ⟨_, rfl⟩
      replace H : (if bq8 = true then (if 0 ≤ ((rd_T30 l1 x6_1).f1) then (if ((rd_T30 l1 x6_1).f1) < (l0.length : Int) then (spec_BusyTime.l0 k1 l0 l1 (wrap64 (x5_1 + ((rd_T41 l0 ((rd_T30 l1 x6_1).f1)).f0))) (wrap64 (x6_1 + 1))) else (none)) else (none)) else (spec_BusyTime.l0 k1 l0 l1 x5_1 (wrap64 (x6_1 + 1)))) = some r := by rw [← hbq8] at H; exact H
      have Nbq8 := mk0 hbq8
      clear hbq8
      by_cases c9 : bq8 = true
      ·
       subst c9
       rw [if_pos rfl] at H
       by_cases c10 : 0 ≤ ((rd_T30 l1 x6_1).f1)
       ·
        rw [if_pos c10] at H
        have c10b0 : decide (0 ≤ ((rd_T30 l1 x6_1).f1)) = true := decide_eq_true c10
        clear c10
        by_cases c11 : ((rd_T30 l1 x6_1).f1) < (l0.length : Int)
        ·
         rw [if_pos c11] at H
         have c11b0 : decide (((rd_T30 l1 x6_1).f1) < (l0.length : Int)) = true := decide_eq_true c11
         clear c11
         have H' := mk0 H
         clear H
         have p522 : 0 ≤ (x6_1 : Int) := od_ (by with_reducible assumption)
         have q522 : x6_1 < (l1.length : Int) := od_ (by with_reducible assumption)
         obtain ⟨ad522, e522, hx522_0, hx522_1, hx522_2⟩ := at_T30 HR1.out x6_1 p522 q522
         (try rw [← Nbq8.out] at hx522_2)
         cases e522
         replace hx522_0 := (HB.out.cell (World.block_lt_of_cell? w _ hx522_0)).trans hx522_0
         replace hx522_1 := (HB.out.cell (World.block_lt_of_cell? w _ hx522_1)).trans hx522_1
         replace hx522_2 := (HB.out.cell (World.block_lt_of_cell? w _ hx522_2)).trans hx522_2
         replace p522 := eq_true p522
         replace q522 := eq_true q522
         have p523 : 0 ≤ (x6_1 : Int) := od_ (by with_reducible assumption)
         have q523 : x6_1 < (l1.length : Int) := od_ (by with_reducible assumption)
         obtain ⟨ad523, e523, hx523_0, hx523_1, hx523_2⟩ := at_T30 HR1.out x6_1 p523 q523
         (try rw [← Nbq8.out] at hx523_2)
         obtain rfl : ad522 = ad523 := (by injection e523)
         replace hx523_0 := (HB.out.cell (World.block_lt_of_cell? w _ hx523_0)).trans hx523_0
         replace hx523_1 := (HB.out.cell (World.block_lt_of_cell? w _ hx523_1)).trans hx523_1
         replace hx523_2 := (HB.out.cell (World.block_lt_of_cell? w _ hx523_2)).trans hx523_2
         replace p523 := eq_true p523
         replace q523 := eq_true q523
         have p524 : 0 ≤ (((rd_T30 l1 x6_1).f1) : Int) := od_ (by with_reducible assumption)
         have q524 : ((rd_T30 l1 x6_1).f1) < (l0.length : Int) := od_ (by with_reducible assumption)
         obtain ⟨ad524, A524_1, c524_1, e524, hx524_0, hx524_1, hx524_2, hx524_3, hl524_1, hi524_1⟩ := at_T41 HR0.out ((rd_T30 l1 x6_1).f1) p524 q524
         cases e524
         replace hx524_0 := (HB.out.cell (World.block_lt_of_cell? w _ hx524_0)).trans hx524_0
         replace hx524_1 := (HB.out.cell (World.block_lt_of_cell? w _ hx524_1)).trans hx524_1
         replace hx524_2 := (HB.out.cell (World.block_lt_of_cell? w _ hx524_2)).trans hx524_2
         replace hx524_3 := (HB.out.cell (World.block_lt_of_cell? w _ hx524_3)).trans hx524_3
         have HR524_1 := mk0 hi524_1
         have HC524_1 := mk0 hl524_1
         clear hi524_1 hl524_1
         replace p524 := eq_true p524
         replace q524 := eq_true q524
         go_wp2
         go_roundg k1
         case measure => have := HK1.out; omega
         case rel => exact ⟨(wrap64 (x5_1 + ((rd_T41 l0 ((rd_T30 l1 x6_1).f1)).f0))), (wrap64 (x6_1 + 1)), (by first | rfl | (simp; done) | (simp [*]; done)), (by first | rfl | (simp; done) | (simp [*]; done)), H', ⟨by have := HK1.out; omega⟩, ⟨by repeat (first | (with_reducible first | exact HB.out | apply ba_ | apply bn_ | apply bd_) | exact HB.out)⟩⟩
        ·
         rw [if_neg c11] at H
         exact absurd H (by simp)
       ·
        rw [if_neg c10] at H
        exact absurd H (by simp)
      ·
       replace c9 := Bool.eq_false_iff.mpr c9
       subst c9
       rw [if_neg (show ¬ (false = true) by decide)] at H
       have H' := mk0 H
       clear H
       have p522 : 0 ≤ (x6_1 : Int) := od_ (by with_reducible assumption)
       have q522 : x6_1 < (l1.length : Int) := od_ (by with_reducible assumption)
       obtain ⟨ad522, e522, hx522_0, hx522_1, hx522_2⟩ := at_T30 HR1.out x6_1 p522 q522
       (try rw [← Nbq8.out] at hx522_2)
       cases e522
       replace hx522_0 := (HB.out.cell (World.block_lt_of_cell? w _ hx522_0)).trans hx522_0
       replace hx522_1 := (HB.out.cell (World.block_lt_of_cell? w _ hx522_1)).trans hx522_1
       replace hx522_2 := (HB.out.cell (World.block_lt_of_cell? w _ hx522_2)).trans hx522_2
       replace p522 := eq_true p522
       replace q522 := eq_true q522
       go_wp2
       go_roundg k1
       case measure => have := HK1.out; omega
       case rel => exact ⟨(x5_1), (wrap64 (x6_1 + 1)), (by first | rfl | (simp; done) | (simp [*]; done)), (by first | rfl | (simp; done) | (simp [*]; done)), H', ⟨by have := HK1.out; omega⟩, ⟨by repeat (first | (with_reducible first | exact HB.out | apply ba_ | apply bn_ | apply bd_) | exact HB.out)⟩⟩
     ·
      rw [if_neg c7] at H
      exact absurd H (by simp)
    ·
     rw [if_neg c6] at H
     have c6b0 : decide (x6_1 < (l1.length : Int)) = false := decide_eq_false c6
     clear c6
     obtain rfl := Option.some.inj H
     go_wp2
     go_ret
     exact ⟨by first | rfl | (simp [errW_none, errW_some] <;> rfl) | (simp [*, errW_none, errW_some] <;> rfl), by repeat (first | (with_reducible first | exact HB.out | apply ba_ | apply bn_ | apply bd_) | exact HB.out)⟩
 ·
  replace c4 := Bool.eq_false_iff.mpr c4
  subst c4
  rw [if_neg (show ¬ (false = true) by decide)] at H
  obtain rfl := Option.some.inj H
  go_enter Tryd.func21, Tryd.ntmps21
  go_wp2_with (first | ((with_reducible refine gate_callee (f := 31) rfl ?_); refine goesL_ (some 9) rfl rfl Tryd.func31 (by kernel_rfl) rfl #[.slice A0 l0.length c0, .slice A1 l1.length c1] rfl (by (try simp only [List.map_toArray, List.map_cons, List.map_nil]); first | done | rfl | (simp only [List.length_drop, List.length_take]; rfl)) ?_; (with_reducible refine (spec_validLog.calls k _ _ l0 _ _ l1 false _ ?side1 ?side2 ?side3 ?side4 A3.out).mono ?_); (case side1 => repeat (first | exact HR0.out | (with_reducible refine Kd.C_alloc ?_ _) | (with_reducible refine Kd.C_drewN ?_ _) | (with_reducible refine Kd.C_drew ?_))); (case side2 => exact HC0.out); (case side3 => repeat (first | exact HR1.out | (with_reducible refine Kd.C_alloc ?_ _) | (with_reducible refine Kd.C_drewN ?_ _) | (with_reducible refine Kd.C_drew ?_))); (case side4 => exact HC1.out); rintro e w12 ⟨rfl, hb⟩; refine ⟨_, rfl, ?_⟩; replace HB := mk0 (below_step (by repeat (first | (with_reducible first | exact HB.out | apply ba_ | apply bn_ | apply bd_) | exact HB.out)) hb); clear hb))
  go_ret
  exact ⟨by first | rfl | (simp [errW_none, errW_some] <;> rfl) | (simp [*, errW_none, errW_some] <;> rfl), by repeat (first | (with_reducible first | exact HB.out | apply ba_ | apply bn_ | apply bd_) | exact HB.out)⟩
def laws_FnBusyTimeLess.j0 : Nat → List (S41) → List (S30) → Int → Bool → Option (Bool)
 | 0, _, _, _, _ => none
 | k + 1, x3, x4, x5, x31 => if x31 = true then ((spec_BusyTime.f k x3 x4).bind fun t533 => (some (x5 == t533))) else (if 0 ≤ (wrap64 ((x4.length : Int) - 1)) then (if (wrap64 ((x4.length : Int) - 1)) ≤ (x4.length : Int) then ((impl_BusyTime.f k x3 (x4.take ((wrap64 ((x4.length : Int) - 1)) : Int).toNat)).bind fun t539 => (if t539 ≥ 0 then (if (wrap64 ((x4.length : Int) - 1)) < (x4.length : Int) then (if ((decide (t539 < x5)) == ((rd_T30 x4 (wrap64 ((x4.length : Int) - 1))).f2)) = true then (some (decide (t539 ≤ x5))) else (some false)) else (none)) else (some false))) else (none)) else (none))
def laws_FnBusyTimeLess.f (k : Nat) (l0 : List Int) : Option (Bool) := if (l0.length : Int) > 1048576 then (some true) else ((spec_DrawBusyTime.f k l0).bind fun bt525 => ((impl_BusyTime.f k bt525.1 bt525.2).bind fun t531 => ((spec_BusyTime.f k bt525.1 bt525.2).bind fun t532 => (if t531 = t532 then (if t531 < 0 then (laws_FnBusyTimeLess.j0 k bt525.1 bt525.2 t531 true) else (laws_FnBusyTimeLess.j0 k bt525.1 bt525.2 t531 ((bt525.2.length : Int) == 0))) else (laws_FnBusyTimeLess.j0 k bt525.1 bt525.2 t531 true)))))
set_option maxHeartbeats 8000000 in
set_option maxRecDepth 100000 in
theorem laws_FnBusyTimeLess.calls (k : Nat) (A0 : Option Addr) (c0 : Nat) (l0 : List Int) (r : Bool) (w : World) (hT : Tab w) (hr0 : Kd.C (Kd.int .u8) w A0 l0.length l0) (hc0 : l0.length ≤ c0) (h : laws_FnBusyTimeLess.f k l0 = some r) :
  Calls Tryd.prog 6 #[.slice A0 l0.length c0] w fun e w' => e = .returned (.bool r) ∧ Below w.heap.size w w' := by
 have HT := mk0 hT
 clear hT
 have HR0 := mk0 hr0
 have HC0 := mk0 hc0
 clear hr0 hc0
 have HB := mk0 (Below.refl w.heap.size w)
 have H : (if (l0.length : Int) > 1048576 then (some true) else ((spec_DrawBusyTime.f k l0).bind fun bt525 => ((impl_BusyTime.f k bt525.1 bt525.2).bind fun t531 => ((spec_BusyTime.f k bt525.1 bt525.2).bind fun t532 => (if t531 = t532 then (if t531 < 0 then (laws_FnBusyTimeLess.j0 k bt525.1 bt525.2 t531 true) else (laws_FnBusyTimeLess.j0 k bt525.1 bt525.2 t531 ((bt525.2.length : Int) == 0))) else (laws_FnBusyTimeLess.j0 k bt525.1 bt525.2 t531 true)))))) = some r := h
 clear h
 by_cases c2 : (l0.length : Int) > 1048576
 ·
  rw [if_pos c2] at H
  have c2b0 : decide (1048576 < (l0.length : Int)) = true := decide_eq_true c2
  have c2b1 : decide (1048576 < l0.length) = true := decide_eq_true (by omega)
  clear c2
  obtain rfl := Option.some.inj H
  go_enter Tryd.func6, Tryd.ntmps6
  go_wp2
  go_ret
  exact ⟨by first | rfl | (simp [errW_none, errW_some] <;> rfl) | (simp [*, errW_none, errW_some] <;> rfl), by repeat (first | (with_reducible first | exact HB.out | apply ba_ | apply bn_ | apply bd_) | exact HB.out)⟩
 ·
  rw [if_neg c2] at H
  have c2b0 : decide (1048576 < (l0.length : Int)) = false := decide_eq_false c2
  have c2b1 : decide (1048576 < l0.length) = false := decide_eq_false (by omega)
  clear c2
  replace H := Option.bind_eq_some_iff.mp H
  obtain ⟨⟨t525, t528⟩, A30, H⟩ := H
  have A3 := mk0 A30
  clear A30
  replace H := Option.bind_eq_some_iff.mp H
  obtain ⟨t531, A40, H⟩ := H
  have A4 := mk0 A40
  clear A40
  have HC5 := mk0 H
  clear H
  go_enter Tryd.func6, Tryd.ntmps6
  go_upto_region 5 with (first | ((with_reducible refine gate_callee (f := 19) rfl ?_); refine goesL_ (some 12) rfl rfl Tryd.func19 (by kernel_rfl) rfl #[.slice A0 l0.length c0] rfl (by (try simp only [List.map_toArray, List.map_cons, List.map_nil]); first | done | rfl | (simp only [List.length_drop, List.length_take]; rfl)) ?_; (with_reducible refine (spec_DrawBusyTime.calls k _ _ l0 t525 t528 _ ?side1 ?side2 A3.out).mono ?_); (case side1 => repeat (first | exact HR0.out | (with_reducible refine Kd.C_alloc ?_ _) | (with_reducible refine Kd.C_drewN ?_ _) | (with_reducible refine Kd.C_drew ?_))); (case side2 => exact HC0.out); rintro e w6 ⟨v526, v529, rfl, ho0, ho1, hb⟩; refine ⟨_, rfl, ?_⟩; have HO527 := mk0 (Kd.N_lower (Kd.N_mono (ok' := fun k_ => some k_ ≠ (v529 : Value).ownBlock) ho0 (fun k_ hk_ => hk_.2)) (below_size (by repeat (first | (with_reducible first | exact HB.out | apply ba_ | apply bn_ | apply bd_) | exact HB.out)))); have HO530 := mk0 (Kd.R_lower (Kd.R_mono (ok' := fun k_ => True) ho1 (fun _ hk_ => trivial)) (below_size (by repeat (first | (with_reducible first | exact HB.out | apply ba_ | apply bn_ | apply bd_) | exact HB.out)))); replace HB := mk0 (below_step (by repeat (first | (with_reducible first | exact HB.out | apply ba_ | apply bn_ | apply bd_) | exact HB.out)) hb); clear hb ho0 ho1; obtain ⟨Ao7, co7, eo7⟩ := Kd.N_slice HO527.out; subst eo7; obtain ⟨Ao8, co8, eo8⟩ := Kd.R_slice HO530.out; subst eo8) | ((with_reducible refine gate_callee (f := 20) rfl ?_); refine goesL_ (some 17) rfl rfl Tryd.func20 (by kernel_rfl) rfl #[.slice Ao7 t525.length co7, .slice Ao8 t528.length co8] rfl (by (try simp only [List.map_toArray, List.map_cons, List.map_nil]); first | done | rfl | (simp only [List.length_drop, List.length_take]; rfl)) ?_; (with_reducible refine (impl_BusyTime.calls k _ _ t525 _ _ t528 t531 _ ?side1 ?side2 ?side3 ?side4 ?side99 A4.out).mono ?_); (case side99 => exact Tab.keep HT.out HT.out.lt (by repeat (first | (with_reducible first | exact HB.out | apply ba_ | apply bn_ | apply bd_) | exact HB.out))); (case side1 => repeat (first | exact (Kd.N_reads' HO527.out).2.2 | (with_reducible refine Kd.C_alloc ?_ _) | (with_reducible refine Kd.C_drewN ?_ _) | (with_reducible refine Kd.C_drew ?_))); (case side2 => exact (Kd.N_reads' HO527.out).2.1); (case side3 => repeat (first | exact (Kd.R_reads' HO530.out).2.2 | (with_reducible refine Kd.C_alloc ?_ _) | (with_reducible refine Kd.C_drewN ?_ _) | (with_reducible refine Kd.C_drew ?_))); (case side4 => exact (Kd.R_reads' HO530.out).2.1); rintro e w9 ⟨rfl, hb⟩; refine ⟨_, rfl, ?_⟩; replace HO527 := mk0 (Kd.N_below (by (with_reducible repeat (first | apply Na_ | apply Nn_ | apply Nd_)); exact HO527.out) hb); replace HO530 := mk0 (Kd.R_below (by (with_reducible repeat (first | apply Ra_ | apply Rn_ | apply Rd_)); exact HO530.out) hb); replace HB := mk0 (below_step (by repeat (first | (with_reducible first | exact HB.out | apply ba_ | apply bn_ | apply bd_) | exact HB.out)) hb); clear hb))
  (try simp only [Act.put, List.setIfInBounds_toArray, List.set_cons_zero, List.set_cons_succ])
  go_cut [31] (fun v31 wc => ∃ (kq : Nat) (x31_4 : Bool), v31 = .bool x31_4 ∧ Aside0 (laws_FnBusyTimeLess.j0 kq t525 t528 t531 x31_4 = some r) ∧ Aside0 (kq ≤ k) ∧ Aside0 (Kd.N k41 41 wc w.heap.size (fun k_ => some k_ ≠ ((.slice Ao8 t528.length co8) : Value).ownBlock) (.slice Ao7 t525.length co7) t525) ∧ Aside0 (Kd.R k30 30 wc w.heap.size (fun _ => True) (.slice Ao8 t528.length co8) t528) ∧ Aside0 (Below w.heap.size w wc))
  case first =>
   have H := HC5.out
   clear HC5
   replace H := Option.bind_eq_some_iff.mp H
   obtain ⟨t532, A100, H⟩ := H
   have A10 := mk0 A100
   clear A100
   by_cases c11 : t531 = t532
   ·
    rw [if_pos c11] at H
    have c11b0 : (t531 == t532) = true := beq_iff_eq.mpr c11
    have c11b1 : (t531 != t532) = false := bne_eq_false_iff_eq.mpr c11
    clear c11
    (first | rw [c11b0] | (simp only [i64_w, i32_w]; rw [c11b0]) | skip)
    by_cases c12 : t531 < 0
    ·
     rw [if_pos c12] at H
     have c12b0 : decide (t531 < 0) = true := decide_eq_true c12
     clear c12
     have H' := mk0 H
     clear H
     go_wp2_with (first | ((with_reducible refine gate_callee (f := 21) rfl ?_); refine goesL_ (some 21) rfl rfl Tryd.func21 (by kernel_rfl) rfl #[.slice Ao7 t525.length co7, .slice Ao8 t528.length co8] rfl (by (try simp only [List.map_toArray, List.map_cons, List.map_nil]); first | done | rfl | (simp only [List.length_drop, List.length_take]; rfl)) ?_; (with_reducible refine (spec_BusyTime.calls k _ _ t525 _ _ t528 t532 _ ?side1 ?side2 ?side3 ?side4 A10.out).mono ?_); (case side1 => repeat (first | exact (Kd.N_reads' HO527.out).2.2 | (with_reducible refine Kd.C_alloc ?_ _) | (with_reducible refine Kd.C_drewN ?_ _) | (with_reducible refine Kd.C_drew ?_))); (case side2 => exact (Kd.N_reads' HO527.out).2.1); (case side3 => repeat (first | exact (Kd.R_reads' HO530.out).2.2 | (with_reducible refine Kd.C_alloc ?_ _) | (with_reducible refine Kd.C_drewN ?_ _) | (with_reducible refine Kd.C_drew ?_))); (case side4 => exact (Kd.R_reads' HO530.out).2.1); rintro e w13 ⟨rfl, hb⟩; refine ⟨_, rfl, ?_⟩; replace HO527 := mk0 (Kd.N_below (by (with_reducible repeat (first | apply Na_ | apply Nn_ | apply Nd_)); exact HO527.out) hb); replace HO530 := mk0 (Kd.R_below (by (with_reducible repeat (first | apply Ra_ | apply Rn_ | apply Rd_)); exact HO530.out) hb); replace HB := mk0 (below_step (by repeat (first | (with_reducible first | exact HB.out | apply ba_ | apply bn_ | apply bd_) | exact HB.out)) hb); clear hb))
     go_meet
     case rel => exact ⟨_, (true), (by first | rfl | (simp; done) | (simp [*]; done)), H', ⟨by first | omega | exact Nat.le_refl _⟩, ⟨by (with_reducible repeat (first | apply Na_ | apply Nn_ | apply Nd_)); exact HO527.out⟩, ⟨by (with_reducible repeat (first | apply Ra_ | apply Rn_ | apply Rd_)); exact HO530.out⟩, ⟨by repeat (first | (with_reducible first | exact HB.out | apply ba_ | apply bn_ | apply bd_) | exact HB.out)⟩⟩
    ·
     rw [if_neg c12] at H
     have c12b0 : decide (t531 < 0) = false := decide_eq_false c12
     clear c12
     have H' := mk0 H
     clear H
     go_wp2_with (first | ((with_reducible refine gate_callee (f := 21) rfl ?_); refine goesL_ (some 21) rfl rfl Tryd.func21 (by kernel_rfl) rfl #[.slice Ao7 t525.length co7, .slice Ao8 t528.length co8] rfl (by (try simp only [List.map_toArray, List.map_cons, List.map_nil]); first | done | rfl | (simp only [List.length_drop, List.length_take]; rfl)) ?_; (with_reducible refine (spec_BusyTime.calls k _ _ t525 _ _ t528 t532 _ ?side1 ?side2 ?side3 ?side4 A10.out).mono ?_); (case side1 => repeat (first | exact (Kd.N_reads' HO527.out).2.2 | (with_reducible refine Kd.C_alloc ?_ _) | (with_reducible refine Kd.C_drewN ?_ _) | (with_reducible refine Kd.C_drew ?_))); (case side2 => exact (Kd.N_reads' HO527.out).2.1); (case side3 => repeat (first | exact (Kd.R_reads' HO530.out).2.2 | (with_reducible refine Kd.C_alloc ?_ _) | (with_reducible refine Kd.C_drewN ?_ _) | (with_reducible refine Kd.C_drew ?_))); (case side4 => exact (Kd.R_reads' HO530.out).2.1); rintro e w14 ⟨rfl, hb⟩; refine ⟨_, rfl, ?_⟩; replace HO527 := mk0 (Kd.N_below (by (with_reducible repeat (first | apply Na_ | apply Nn_ | apply Nd_)); exact HO527.out) hb); replace HO530 := mk0 (Kd.R_below (by (with_reducible repeat (first | apply Ra_ | apply Rn_ | apply Rd_)); exact HO530.out) hb); replace HB := mk0 (below_step (by repeat (first | (with_reducible first | exact HB.out | apply ba_ | apply bn_ | apply bd_) | exact HB.out)) hb); clear hb))
     go_meet
     case rel => exact ⟨_, (((t528.length : Int) == 0)), (by first | rfl | (simp; done) | (simp [*]; done)), H', ⟨by first | omega | exact Nat.le_refl _⟩, ⟨by (with_reducible repeat (first | apply Na_ | apply Nn_ | apply Nd_)); exact HO527.out⟩, ⟨by (with_reducible repeat (first | apply Ra_ | apply Rn_ | apply Rd_)); exact HO530.out⟩, ⟨by repeat (first | (with_reducible first | exact HB.out | apply ba_ | apply bn_ | apply bd_) | exact HB.out)⟩⟩
   ·
    rw [if_neg c11] at H
    have c11b0 : (t531 == t532) = false := beq_eq_false_iff_ne.mpr c11
    have c11b1 : (t531 != t532) = true := bne_iff_ne.mpr c11
    (first | rw [c11b0] | (simp only [i64_w, i32_w]; rw [c11b0]) | skip)
    have H' := mk0 H
    clear H
    go_wp2_with (first | ((with_reducible refine gate_callee (f := 21) rfl ?_); refine goesL_ (some 21) rfl rfl Tryd.func21 (by kernel_rfl) rfl #[.slice Ao7 t525.length co7, .slice Ao8 t528.length co8] rfl (by (try simp only [List.map_toArray, List.map_cons, List.map_nil]); first | done | rfl | (simp only [List.length_drop, List.length_take]; rfl)) ?_; (with_reducible refine (spec_BusyTime.calls k _ _ t525 _ _ t528 t532 _ ?side1 ?side2 ?side3 ?side4 A10.out).mono ?_); (case side1 => repeat (first | exact (Kd.N_reads' HO527.out).2.2 | (with_reducible refine Kd.C_alloc ?_ _) | (with_reducible refine Kd.C_drewN ?_ _) | (with_reducible refine Kd.C_drew ?_))); (case side2 => exact (Kd.N_reads' HO527.out).2.1); (case side3 => repeat (first | exact (Kd.R_reads' HO530.out).2.2 | (with_reducible refine Kd.C_alloc ?_ _) | (with_reducible refine Kd.C_drewN ?_ _) | (with_reducible refine Kd.C_drew ?_))); (case side4 => exact (Kd.R_reads' HO530.out).2.1); rintro e w15 ⟨rfl, hb⟩; refine ⟨_, rfl, ?_⟩; replace HO527 := mk0 (Kd.N_below (by (with_reducible repeat (first | apply Na_ | apply Nn_ | apply Nd_)); exact HO527.out) hb); replace HO530 := mk0 (Kd.R_below (by (with_reducible repeat (first | apply Ra_ | apply Rn_ | apply Rd_)); exact HO530.out) hb); replace HB := mk0 (below_step (by repeat (first | (with_reducible first | exact HB.out | apply ba_ | apply bn_ | apply bd_) | exact HB.out)) hb); clear hb))
    go_meet
    case rel => exact ⟨_, (true), (by first | rfl | (simp; done) | (simp [*]; done)), H', ⟨by first | omega | exact Nat.le_refl _⟩, ⟨by (with_reducible repeat (first | apply Na_ | apply Nn_ | apply Nd_)); exact HO527.out⟩, ⟨by (with_reducible repeat (first | apply Ra_ | apply Rn_ | apply Rd_)); exact HO530.out⟩, ⟨by repeat (first | (with_reducible first | exact HB.out | apply ba_ | apply bn_ | apply bd_) | exact HB.out)⟩⟩
  case rest =>
   clear HC5
   try clear c1
   try clear c2
   try clear c2b0
   try clear c2b1
   try clear p2
   try clear c6
   try clear c11
   try clear c11b0
   try clear c11b1
   try clear c12
   try clear c12b0
   obtain ⟨kq, x31_4, rfl, HA, HJ4, HO_3, HO_4, HB⟩ := hcut
   cases kq with
   | zero => exact absurd HA.out (by simp [laws_FnBusyTimeLess.j0])
   | succ kj4 =>
    have H := HA.out
    clear HA
    simp only [laws_FnBusyTimeLess.j0] at H
    by_cases c16 : x31_4 = true
    ·
     subst c16
     rw [if_pos rfl] at H
     replace H := Option.bind_eq_some_iff.mp H
     obtain ⟨t533, A170, H⟩ := H
     have A17 := mk0 A170
     clear A170
     obtain rfl := Option.some.inj H
     go_wp2_with (first | ((with_reducible refine gate_callee (f := 21) rfl ?_); refine goesL_ (some 35) rfl rfl Tryd.func21 (by kernel_rfl) rfl #[.slice Ao7 t525.length co7, .slice Ao8 t528.length co8] rfl (by (try simp only [List.map_toArray, List.map_cons, List.map_nil]); first | done | rfl | (simp only [List.length_drop, List.length_take]; rfl)) ?_; (with_reducible refine (spec_BusyTime.calls kj4 _ _ t525 _ _ t528 t533 _ ?side1 ?side2 ?side3 ?side4 A17.out).mono ?_); (case side1 => repeat (first | exact (Kd.N_reads' HO_3.out).2.2 | (with_reducible refine Kd.C_alloc ?_ _) | (with_reducible refine Kd.C_drewN ?_ _) | (with_reducible refine Kd.C_drew ?_))); (case side2 => exact (Kd.N_reads' HO_3.out).2.1); (case side3 => repeat (first | exact (Kd.R_reads' HO_4.out).2.2 | (with_reducible refine Kd.C_alloc ?_ _) | (with_reducible refine Kd.C_drewN ?_ _) | (with_reducible refine Kd.C_drew ?_))); (case side4 => exact (Kd.R_reads' HO_4.out).2.1); rintro e w18 ⟨rfl, hb⟩; refine ⟨_, rfl, ?_⟩; replace HO_3 := mk0 (Kd.N_below (by (with_reducible repeat (first | apply Na_ | apply Nn_ | apply Nd_)); exact HO_3.out) hb); replace HO_4 := mk0 (Kd.R_below (by (with_reducible repeat (first | apply Ra_ | apply Rn_ | apply Rd_)); exact HO_4.out) hb); replace HB := mk0 (below_step (by repeat (first | (with_reducible first | exact HB.out | apply ba_ | apply bn_ | apply bd_) | exact HB.out)) hb); clear hb))
     go_ret
     exact ⟨by first | rfl | (simp [errW_none, errW_some] <;> rfl) | (simp [*, errW_none, errW_some] <;> rfl), by repeat (first | (with_reducible first | exact HB.out | apply ba_ | apply bn_ | apply bd_) | exact HB.out)⟩
    ·
     replace c16 := Bool.eq_false_iff.mpr c16
     subst c16
     rw [if_neg (show ¬ (false = true) by decide)] at H
     obtain ⟨ji19, hji19⟩ : ∃ j_ : Int, (wrap64 ((t528.length : Int) - 1)) = j_ := ⟨_, rfl⟩
     replace H : (if 0 ≤ (ji19) then (if (ji19) ≤ (t528.length : Int) then ((impl_BusyTime.f kj4 t525 (t528.take ((ji19) : Int).toNat)).bind fun t539 => (if t539 ≥ 0 then (if (ji19) < (t528.length : Int) then (if ((decide (t539 < t531)) == ((rd_T30 t528 (ji19)).f2)) = true then (some (decide (t539 ≤ t531))) else (some false)) else (none)) else (some false))) else (none)) else (none)) = some r := by first | (rw [hji19] at H; exact H) | (simp only [hji19] at H ⊢; exact H)
     have hji19w : (IntKind.i64.wrap ((t528.length : Int) - 1)) = ji19 := (i64_w _).trans hji19
     by_cases c20 : 0 ≤ (ji19)
     ·
      rw [if_pos c20] at H
      have c20b0 := eq_true c20
      have c20b1 : decide (0 ≤ (ji19)) = true := decide_eq_true c20
      clear c20
      by_cases c21 : (ji19) ≤ (t528.length : Int)
      ·
       rw [if_pos c21] at H
       have c21b0 := eq_true c21
       have c21b1 : decide ((ji19) ≤ (t528.length : Int)) = true := decide_eq_true c21
       clear c21
       obtain ⟨y534, hy534⟩ : ∃ y_ : List (S30), y_ = (t528.take ((ji19) : Int).toNat) := ⟨_, rfl⟩
       replace H : ((impl_BusyTime.f kj4 t525 y534).bind fun t539 => (if t539 ≥ 0 then (if (ji19) < (t528.length : Int) then (if ((decide (t539 < t531)) == ((rd_T30 t528 (ji19)).f2)) = true then (some (decide (t539 ≤ t531))) else (some false)) else (none)) else (some false))) = some r := by first | (rw [hy534]; with_reducible exact H) | (rw [hy534]; exact (Option.bind_some _ _).symm.trans H) | (rw [hy534]; exact H) | exact H
       have Ny534 := mk0 hy534
       clear hy534
       replace H := Option.bind_eq_some_iff.mp H
       obtain ⟨t539, A220, H⟩ := H
       have A22 := mk0 A220
       clear A220
       by_cases c23 : t539 ≥ 0
       ·
        rw [if_pos c23] at H
        have c23b0 : decide (0 ≤ t539) = true := decide_eq_true c23
        clear c23
        by_cases c24 : (ji19) < (t528.length : Int)
        ·
         rw [if_pos c24] at H
         have c24b0 : decide ((ji19) < (t528.length : Int)) = true := decide_eq_true c24
         clear c24
         by_cases c25 : ((decide (t539 < t531)) == ((rd_T30 t528 (ji19)).f2)) = true
         ·
          rw [if_pos c25] at H
          have c25b0 : ((decide (t539 < t531)) == ((rd_T30 t528 (ji19)).f2)) = true := c25
          (try (have c25b1 : decide ((decide (t539 < t531)) = ((rd_T30 t528 (ji19)).f2)) = true := by simpa using c25))
          (try (have c25b2 : ((decide (t539 < t531)) == ((rd_T30 t528 (ji19)).f2)) = true := by simpa using c25))
          clear c25
          obtain rfl := Option.some.inj H
          have q26 : ((ji19) : Int) ≤ ((t528.length : Int) : Int) := od_ (by with_reducible assumption)
          obtain ⟨i026, hi026, _, hsz26, _⟩ := info_parts info30
          have hroom26 : t528.length ≤ co8 := (Kd.R_reads' HO_4.out).2.1
          have hC26 : Kd.F k30 _ _ Ao8 t528.length t528 := (Kd.V_at (base := w.heap.size) (Kd.R_V (Kd.R_apart' (HO_4.out) (Kd.N_typed HO_3.out) (by decide)))).2.2
          have hcut26 := cut_to (P := Tryd.prog) 24 30 .i64 Tryd.underlying24 hi026 Ao8 t528.length co8 (ji19) (od_ (by with_reducible assumption)) q26 hroom26
          have hr26 := Kd.F_take (m := ((ji19) : Int).toNat) hC26 (by omega)
          have hy26 : y534.length = ((ji19) : Int).toNat := (by rw [Ny534.out, List.length_take]; omega)
          rw [← Ny534.out] at hr26
          rw [← hy26] at hcut26
          have HO538 := mk0 (show Kd.V k30 30 _ w.heap.size _ (.slice Ao8 y534.length co8) y534 from Kd.V_mk (by omega) hr26)
          have HC538 := mk0 (show y534.length ≤ co8 from by omega)
          clear hr26 hC26 hroom26 hi026 hsz26
          have KY26 := mk0 hy26
          clear hy26
          replace q26 := eq_true q26
          go_wp2_with (first | ((with_reducible refine gate_callee (f := 20) rfl ?_); refine goesL_ (some 43) rfl rfl Tryd.func20 (by kernel_rfl) rfl #[.slice Ao7 t525.length co7, .slice Ao8 y534.length co8] rfl (by (try simp only [List.map_toArray, List.map_cons, List.map_nil]); first | done | rfl | (simp only [List.length_drop, List.length_take]; rfl)) ?_; (with_reducible refine (impl_BusyTime.calls kj4 _ _ t525 _ _ y534 t539 _ ?side1 ?side2 ?side3 ?side4 ?side99 A22.out).mono ?_); (case side99 => exact Tab.keep HT.out HT.out.lt (by repeat (first | (with_reducible first | exact HB.out | apply ba_ | apply bn_ | apply bd_) | exact HB.out))); (case side1 => repeat (first | exact (Kd.N_reads' HO_3.out).2.2 | (with_reducible refine Kd.C_alloc ?_ _) | (with_reducible refine Kd.C_drewN ?_ _) | (with_reducible refine Kd.C_drew ?_))); (case side2 => exact (Kd.N_reads' HO_3.out).2.1); (case side3 => repeat (first | exact (Kd.V_reads' HO538.out).2.2 | (with_reducible refine Kd.C_alloc ?_ _) | (with_reducible refine Kd.C_drewN ?_ _) | (with_reducible refine Kd.C_drew ?_))); (case side4 => exact (Kd.V_reads' HO538.out).2.1); rintro e w27 ⟨rfl, hb⟩; refine ⟨_, rfl, ?_⟩; replace HO_3 := mk0 (Kd.N_below (by (with_reducible repeat (first | apply Na_ | apply Nn_ | apply Nd_)); exact HO_3.out) hb); replace HO_4 := mk0 (Kd.R_below (by (with_reducible repeat (first | apply Ra_ | apply Rn_ | apply Rd_)); exact HO_4.out) hb); replace HO538 := mk0 (Kd.V_below (by (with_reducible repeat (first | apply Va_ | apply Vn_ | apply Vd_)); exact HO538.out) hb); replace HB := mk0 (below_step (by repeat (first | (with_reducible first | exact HB.out | apply ba_ | apply bn_ | apply bd_) | exact HB.out)) hb); clear hb; have p540 : 0 ≤ ((ji19) : Int) := od_ (by with_reducible assumption); have q540 : (ji19) < (t528.length : Int) := od_ (by with_reducible assumption); obtain ⟨ad540, e540, hx540_0, hx540_1, hx540_2⟩ := at_T30 (Kd.R_reads' HO_4.out).2.2 (ji19) p540 q540; cases e540; replace p540 := eq_true p540; replace q540 := eq_true q540))
          go_ret
          exact ⟨by first | rfl | (simp [errW_none, errW_some] <;> rfl) | (simp only [← hji19]; first | rfl | (simp [errW_none, errW_some] <;> rfl)) | (simp [*, errW_none, errW_some] <;> rfl), by repeat (first | (with_reducible first | exact HB.out | apply ba_ | apply bn_ | apply bd_) | exact HB.out)⟩
         ·
          rw [if_neg c25] at H
          have c25b0 : ((decide (t539 < t531)) == ((rd_T30 t528 (ji19)).f2)) = false := by simpa using c25
          (try (have c25b1 : decide ((decide (t539 < t531)) = ((rd_T30 t528 (ji19)).f2)) = false := by simpa using c25))
          (try (have c25b2 : ((decide (t539 < t531)) == ((rd_T30 t528 (ji19)).f2)) = false := by simpa using c25))
          (try (have c25b3 : ¬ ((decide (t539 < t531)) = ((rd_T30 t528 (ji19)).f2)) := by simpa using c25))
          clear c25
          obtain rfl := Option.some.inj H
          have q28 : ((ji19) : Int) ≤ ((t528.length : Int) : Int) := od_ (by with_reducible assumption)
          obtain ⟨i028, hi028, _, hsz28, _⟩ := info_parts info30
          have hroom28 : t528.length ≤ co8 := (Kd.R_reads' HO_4.out).2.1
          have hC28 : Kd.F k30 _ _ Ao8 t528.length t528 := (Kd.V_at (base := w.heap.size) (Kd.R_V (Kd.R_apart' (HO_4.out) (Kd.N_typed HO_3.out) (by decide)))).2.2
          have hcut28 := cut_to (P := Tryd.prog) 24 30 .i64 Tryd.underlying24 hi028 Ao8 t528.length co8 (ji19) (od_ (by with_reducible assumption)) q28 hroom28
          have hr28 := Kd.F_take (m := ((ji19) : Int).toNat) hC28 (by omega)
          have hy28 : y534.length = ((ji19) : Int).toNat := (by rw [Ny534.out, List.length_take]; omega)
          rw [← Ny534.out] at hr28
          rw [← hy28] at hcut28
          have HO538 := mk0 (show Kd.V k30 30 _ w.heap.size _ (.slice Ao8 y534.length co8) y534 from Kd.V_mk (by omega) hr28)
          have HC538 := mk0 (show y534.length ≤ co8 from by omega)
          clear hr28 hC28 hroom28 hi028 hsz28
          have KY28 := mk0 hy28
          clear hy28
          replace q28 := eq_true q28
          go_wp2_with (first | ((with_reducible refine gate_callee (f := 20) rfl ?_); refine goesL_ (some 43) rfl rfl Tryd.func20 (by kernel_rfl) rfl #[.slice Ao7 t525.length co7, .slice Ao8 y534.length co8] rfl (by (try simp only [List.map_toArray, List.map_cons, List.map_nil]); first | done | rfl | (simp only [List.length_drop, List.length_take]; rfl)) ?_; (with_reducible refine (impl_BusyTime.calls kj4 _ _ t525 _ _ y534 t539 _ ?side1 ?side2 ?side3 ?side4 ?side99 A22.out).mono ?_); (case side99 => exact Tab.keep HT.out HT.out.lt (by repeat (first | (with_reducible first | exact HB.out | apply ba_ | apply bn_ | apply bd_) | exact HB.out))); (case side1 => repeat (first | exact (Kd.N_reads' HO_3.out).2.2 | (with_reducible refine Kd.C_alloc ?_ _) | (with_reducible refine Kd.C_drewN ?_ _) | (with_reducible refine Kd.C_drew ?_))); (case side2 => exact (Kd.N_reads' HO_3.out).2.1); (case side3 => repeat (first | exact (Kd.V_reads' HO538.out).2.2 | (with_reducible refine Kd.C_alloc ?_ _) | (with_reducible refine Kd.C_drewN ?_ _) | (with_reducible refine Kd.C_drew ?_))); (case side4 => exact (Kd.V_reads' HO538.out).2.1); rintro e w29 ⟨rfl, hb⟩; refine ⟨_, rfl, ?_⟩; replace HO_3 := mk0 (Kd.N_below (by (with_reducible repeat (first | apply Na_ | apply Nn_ | apply Nd_)); exact HO_3.out) hb); replace HO_4 := mk0 (Kd.R_below (by (with_reducible repeat (first | apply Ra_ | apply Rn_ | apply Rd_)); exact HO_4.out) hb); replace HO538 := mk0 (Kd.V_below (by (with_reducible repeat (first | apply Va_ | apply Vn_ | apply Vd_)); exact HO538.out) hb); replace HB := mk0 (below_step (by repeat (first | (with_reducible first | exact HB.out | apply ba_ | apply bn_ | apply bd_) | exact HB.out)) hb); clear hb; have p540 : 0 ≤ ((ji19) : Int) := od_ (by with_reducible assumption); have q540 : (ji19) < (t528.length : Int) := od_ (by with_reducible assumption); obtain ⟨ad540, e540, hx540_0, hx540_1, hx540_2⟩ := at_T30 (Kd.R_reads' HO_4.out).2.2 (ji19) p540 q540; cases e540; replace p540 := eq_true p540; replace q540 := eq_true q540))
          go_ret
          exact ⟨by first | rfl | (simp [errW_none, errW_some] <;> rfl) | (simp only [← hji19]; first | rfl | (simp [errW_none, errW_some] <;> rfl)) | (simp [*, errW_none, errW_some] <;> rfl), by repeat (first | (with_reducible first | exact HB.out | apply ba_ | apply bn_ | apply bd_) | exact HB.out)⟩
        ·
         rw [if_neg c24] at H
         exact absurd H (by simp)
       ·
        rw [if_neg c23] at H
        have c23b0 : decide (0 ≤ t539) = false := decide_eq_false c23
        clear c23
        obtain rfl := Option.some.inj H
        have q30 : ((ji19) : Int) ≤ ((t528.length : Int) : Int) := od_ (by with_reducible assumption)
        obtain ⟨i030, hi030, _, hsz30, _⟩ := info_parts info30
        have hroom30 : t528.length ≤ co8 := (Kd.R_reads' HO_4.out).2.1
        have hC30 : Kd.F k30 _ _ Ao8 t528.length t528 := (Kd.V_at (base := w.heap.size) (Kd.R_V (Kd.R_apart' (HO_4.out) (Kd.N_typed HO_3.out) (by decide)))).2.2
        have hcut30 := cut_to (P := Tryd.prog) 24 30 .i64 Tryd.underlying24 hi030 Ao8 t528.length co8 (ji19) (od_ (by with_reducible assumption)) q30 hroom30
        have hr30 := Kd.F_take (m := ((ji19) : Int).toNat) hC30 (by omega)
        have hy30 : y534.length = ((ji19) : Int).toNat := (by rw [Ny534.out, List.length_take]; omega)
        rw [← Ny534.out] at hr30
        rw [← hy30] at hcut30
        have HO538 := mk0 (show Kd.V k30 30 _ w.heap.size _ (.slice Ao8 y534.length co8) y534 from Kd.V_mk (by omega) hr30)
        have HC538 := mk0 (show y534.length ≤ co8 from by omega)
        clear hr30 hC30 hroom30 hi030 hsz30
        have KY30 := mk0 hy30
        clear hy30
        replace q30 := eq_true q30
        go_wp2_with (first | ((with_reducible refine gate_callee (f := 20) rfl ?_); refine goesL_ (some 43) rfl rfl Tryd.func20 (by kernel_rfl) rfl #[.slice Ao7 t525.length co7, .slice Ao8 y534.length co8] rfl (by (try simp only [List.map_toArray, List.map_cons, List.map_nil]); first | done | rfl | (simp only [List.length_drop, List.length_take]; rfl)) ?_; (with_reducible refine (impl_BusyTime.calls kj4 _ _ t525 _ _ y534 t539 _ ?side1 ?side2 ?side3 ?side4 ?side99 A22.out).mono ?_); (case side99 => exact Tab.keep HT.out HT.out.lt (by repeat (first | (with_reducible first | exact HB.out | apply ba_ | apply bn_ | apply bd_) | exact HB.out))); (case side1 => repeat (first | exact (Kd.N_reads' HO_3.out).2.2 | (with_reducible refine Kd.C_alloc ?_ _) | (with_reducible refine Kd.C_drewN ?_ _) | (with_reducible refine Kd.C_drew ?_))); (case side2 => exact (Kd.N_reads' HO_3.out).2.1); (case side3 => repeat (first | exact (Kd.V_reads' HO538.out).2.2 | (with_reducible refine Kd.C_alloc ?_ _) | (with_reducible refine Kd.C_drewN ?_ _) | (with_reducible refine Kd.C_drew ?_))); (case side4 => exact (Kd.V_reads' HO538.out).2.1); rintro e w31 ⟨rfl, hb⟩; refine ⟨_, rfl, ?_⟩; replace HO_3 := mk0 (Kd.N_below (by (with_reducible repeat (first | apply Na_ | apply Nn_ | apply Nd_)); exact HO_3.out) hb); replace HO_4 := mk0 (Kd.R_below (by (with_reducible repeat (first | apply Ra_ | apply Rn_ | apply Rd_)); exact HO_4.out) hb); replace HO538 := mk0 (Kd.V_below (by (with_reducible repeat (first | apply Va_ | apply Vn_ | apply Vd_)); exact HO538.out) hb); replace HB := mk0 (below_step (by repeat (first | (with_reducible first | exact HB.out | apply ba_ | apply bn_ | apply bd_) | exact HB.out)) hb); clear hb))
        go_ret
        exact ⟨by first | rfl | (simp [errW_none, errW_some] <;> rfl) | (simp only [← hji19]; first | rfl | (simp [errW_none, errW_some] <;> rfl)) | (simp [*, errW_none, errW_some] <;> rfl), by repeat (first | (with_reducible first | exact HB.out | apply ba_ | apply bn_ | apply bd_) | exact HB.out)⟩
      ·
       rw [if_neg c21] at H
       exact absurd H (by simp)
     ·
      rw [if_neg c20] at H
      exact absurd H (by simp)
end Go.Proofs.YtlcdffhhimbbmaaDoor.PFnValidLog
