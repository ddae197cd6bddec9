/- Parts of the proof, laid as one text by a program of mine. -/
import Derived.Test.YtkljcdghbefceaaGreatDoorKbtc10
import Derived.Test.YtkljcdghbefceaaGreatDoorKbtc19
import Derived.Test.YtkljcdghbefceaaGreatDoorKbtc18
import Derived.Test.YtkljcdghbefceaaGreatDoorKbtc17
import Derived.Test.YtkljcdghbefceaaGreatDoorKbtc12
namespace Go.Proofs.YtkljcdghbefceaaGreatDoor.PFnValidLog
open Go.RowKit Go.Proofs.YtkljcdghbefceaaGreatDoorW.PrintWords Go.Proofs.YtkljcdghbefceaaGreatDoorW.PrintLast Go.Proofs.YtkljcdghbefceaaGreatDoorW.PrintMore
attribute [local go_sem] max2_int min2_int max_two min_two max_three min_three max_four min_four
set_option linter.unusedVariables false
set_option linter.unusedSimpArgs false
/-! spec_orders -/
mutual
def spec_orders.l0 : Nat → List (S41) → List Int → List (List Int) → Int → Option ((List (List Int)))
 | 0, _, _, _, _ => none
 | k + 1, x0, x1, x5, x6 => if x6 < (x0.length : Int) then ((spec_isIn.f k x1 x6).bind fun t334 => (if t334 = true then (spec_orders.j1 k x0 x1 x5 x6 false) else (if 0 ≤ x6 then ((spec_allDone.f k ((rd_T41 x0 x6).f1) x1).bind fun t336 => (spec_orders.j1 k x0 x1 x5 x6 t336)) else (none)))) else (some x5)
def spec_orders.j1 : Nat → List (S41) → List Int → List (List Int) → Int → Bool → Option ((List (List Int)))
 | 0, _, _, _, _, _ => none
 | k + 1, x0, x1, x5, x6, x34 => if x34 = true then ((spec_copyInts.f x1).bind fun t337 => (if t337.length < 17592186044416 then ((spec_orders.f k x0 (t337 ++ [x6])).bind fun t343 => (if x5.length + t343.length < 5864062014805 then (spec_orders.l0 k x0 x1 (x5 ++ t343) (wrap64 (x6 + 1))) else (none))) else (none))) else (spec_orders.l0 k x0 x1 x5 (wrap64 (x6 + 1)))
def spec_orders.f : Nat → List (S41) → List Int → Option ((List (List Int)))
 | 0, _, _ => none
 | k + 1, l0, l1 => if (l1.length : Int) = (l0.length : Int) then ((spec_copyInts.f l1).bind fun t325 => (some (([t325] : List (List Int))))) else (spec_orders.l0 k l0 l1 (([] : List (List Int))) 0)
end
set_option maxHeartbeats 8000000 in
set_option maxRecDepth 100000 in
theorem spec_orders.calls (k : Nat) : ∀ (A0 : Option Addr) (c0 : Nat) (l0 : List (S41)) (A1 : Option Addr) (c1 : Nat) (l1 : List Int) (r : List (List Int)) (w : World) (hr0 : Kd.C k41 w A0 l0.length l0) (hc0 : l0.length ≤ c0) (hr1 : Kd.C (Kd.int .i64) w A1 l1.length l1) (hc1 : l1.length ≤ c1) (h : spec_orders.f k l0 l1 = some r),
  Calls Tryz.prog 37 #[.slice A0 l0.length c0, .slice A1 l1.length c1] w fun e w' => ∃ v0_ : Value, e = .returned (v0_) ∧ Kd.N (Kd.slice 3 (Kd.int .i64)) 24 w' w.heap.size (fun k_ => (w.heap.size ≤ k_)) v0_ r ∧ Below w.heap.size w w' := by
 induction k using Nat.strongRecOn with
 | _ k ih =>
 intro A0 c0 l0 A1 c1 l1 r w hr0 hc0 hr1 hc1 h
 cases k with
 | zero => exact absurd h (by simp [spec_orders.f])
 | succ k =>
 simp only [spec_orders.f] at h
 have HR0 := mk0 hr0
 have HC0 := mk0 hc0
 clear hr0 hc0
 have HR1 := mk0 hr1
 have HC1 := mk0 hc1
 clear hr1 hc1
 have HB := mk0 (Below.refl w.heap.size w)
 have H : (if (l1.length : Int) = (l0.length : Int) then ((spec_copyInts.f l1).bind fun t325 => (some (([t325] : List (List Int))))) else (spec_orders.l0 k l0 l1 (([] : List (List Int))) 0)) = some r := h
 clear h
 by_cases c3 : (l1.length : Int) = (l0.length : Int)
 ·
  rw [if_pos c3] at H
  have c3b0 : ((l1.length : Int) == (l0.length : Int)) = true := beq_iff_eq.mpr c3
  have c3b1 : ((l1.length : Int) != (l0.length : Int)) = false := bne_eq_false_iff_eq.mpr c3
  have c3b2 : (l1.length == l0.length) = true := by first | simpa using c3 | (simp at c3 ⊢; omega)
  clear c3
  replace H := bE_ H
  obtain ⟨t325, A40, H⟩ := H
  have A4 := mk0 A40
  clear A40
  obtain ⟨y328, hy328⟩ : ∃ y_ : List (List Int), y_ = (([t325] : List (List Int))) := ⟨_, rfl⟩
  replace H : (some y328) = some r := by first | (rw [hy328]; with_reducible exact H) | (rw [hy328]; exact (Option.bind_some _ _).symm.trans H) | (rw [hy328]; exact H) | exact H
  have Ny328 := mk0 hy328
  clear hy328
  obtain rfl := Option.some.inj H
  go_enter Tryz.func37, Tryz.ntmps37
  go_wp2_with (first | ((with_reducible refine gate_callee (f := 38) rfl ?_); refine goesL_ (some 13) rfl rfl Tryz.func38 (by kernel_rfl) rfl #[.slice A1 l1.length c1] rfl (by (try simp only [List.map_toArray, List.map_cons, List.map_nil]); first | done | rfl | (simp only [List.length_drop, List.length_take]; rfl)) ?_; (with_reducible refine (spec_copyInts.calls _ _ l1 t325 _ ?side1 ?side2 A4.out).mono ?_); (case side1 => repeat (first | exact HR1.out | (with_reducible first | refine Ca_ ?_ _ | refine Cn_ ?_ _ | refine Cd_ ?_))); (case side2 => exact HC1.out); rintro e w5 ⟨v326, rfl, ho0, hb⟩; refine ⟨_, rfl, ?_⟩; have HO327 := mk0 (Kd.R_lower (Kd.R_newM (M := fun k_ => (w.heap.size ≤ k_)) ho0 (below_size (by with_reducible repeat (first | exact HB.out | apply ba_ | apply bn_ | apply bd_))) (fun k_ h_ => h_)) (below_size (by with_reducible repeat (first | exact HB.out | apply ba_ | apply bn_ | apply bd_)))); replace HB := mk0 (below_step (by with_reducible repeat (first | exact HB.out | apply ba_ | apply bn_ | apply bd_)) hb); clear hb ho0; obtain ⟨Ao6, co6, eo6⟩ := Kd.R_slice HO327.out; subst eo6) | ((with_reducible refine gate_dst (N := 14) rfl ?_); refine Kd.N_lit (Kd.slice 3 (Kd.int .i64)) _ 24 ?hg (N' := 14) ?hd (xs := ([t325] : List (List Int))) (inner := [.slice Ao6 t325.length co6]) (ok := (fun k_ => (w.heap.size ≤ k_))) (okp := (fun k_ => (w.heap.size ≤ k_))) ?hr ?hp (fun _ hk => hk) ((show ∀ k_, w5.heap.size ≤ k_ → (fun k_ => (w.heap.size ≤ k_)) k_ from fun k_ hk => (Nat.le_trans (below_size (by with_reducible repeat (first | exact HB.out | apply ba_ | apply bn_ | apply bd_))) hk)) _ (Nat.le_refl _)) (Below.refl _ _) (Nat.le_refl _) (by simp) ?_; (case hd => rfl); (case hg => rfl); (case hr => first | (go_simp; done) | (go_simp; rfl)); (case hp => exact (Reps.one (show Kd.FK (Kd.slice 3 (Kd.int .i64)) _ _ t325 [.slice Ao6 t325.length co6] from (Kd.FK_slice_mk (Kd.R_reads' (Kd.R_mono (ok' := (fun k_ => (w.heap.size ≤ k_))) (HO327.out) (fun k_ hk => hk.1))).2.1 (Kd.R_F (Kd.R_mono (ok' := (fun k_ => (w.heap.size ≤ k_))) (HO327.out) (fun k_ hk => hk.1))))) (Reps.none _ _))); intro v329 w7 ho8 hb hg_ hnew_; clear hg_ hnew_; (first | rw [← Ny328.out] at ho8 | (simp only [Int.reduceToNat] at ho8; rw [← Ny328.out] at ho8)); have HO330 := mk0 (Kd.N_lower ho8 (below_size (by with_reducible repeat (first | exact HB.out | apply ba_ | apply bn_ | apply bd_)))); replace HB := mk0 (below_step (by with_reducible repeat (first | exact HB.out | apply ba_ | apply bn_ | apply bd_)) hb); clear HO327; clear hb ho8))
  go_ret
  exact ⟨_, by first | rfl | (simp [errW_none, errW_some] <;> rfl) | (simp [*, errW_none, errW_some] <;> rfl), by (with_reducible repeat (first | apply Na_ | apply Nn_ | apply Nd_)); exact HO330.out, by with_reducible repeat (first | exact HB.out | apply ba_ | apply bn_ | apply bd_)⟩
 ·
  rw [if_neg c3] at H
  have c3b0 : ((l1.length : Int) == (l0.length : Int)) = false := beq_eq_false_iff_ne.mpr c3
  have c3b1 : ((l1.length : Int) != (l0.length : Int)) = true := bne_iff_ne.mpr c3
  have c3b2 : (l1.length == l0.length) = false := by first | simpa using c3 | (simp at c3 ⊢; omega)
  obtain ⟨y331, hy331⟩ : ∃ y_ : List (List Int), y_ = (([] : List (List Int))) := ⟨_, rfl⟩
  replace H : (spec_orders.l0 k l0 l1 y331 0) = some r := by first | (rw [hy331]; with_reducible exact H) | (rw [hy331]; exact (Option.bind_some _ _).symm.trans H) | (rw [hy331]; exact H) | exact H
  have Ny331 := mk0 hy331
  clear hy331
  have H' := mk0 H
  clear H
  go_enter Tryz.func37, Tryz.ntmps37
  go_wp2_with (first | ((with_reducible refine gate_dst (N := 15) rfl ?_); refine Kd.N_lit (Kd.slice 3 (Kd.int .i64)) _ 24 ?hg (N' := 15) ?hd (xs := ([] : List (List Int))) (inner := []) (ok := (fun k_ => (w.heap.size ≤ k_))) (okp := (fun k_ => (w.heap.size ≤ k_))) ?hr ?hp (fun _ hk => hk) ((show ∀ k_, w.heap.size ≤ k_ → (fun k_ => (w.heap.size ≤ k_)) k_ from fun k_ hk => (Nat.le_trans (below_size (by with_reducible repeat (first | exact HB.out | apply ba_ | apply bn_ | apply bd_))) hk)) _ (Nat.le_refl _)) (Below.refl _ _) (Nat.le_refl _) (by simp) ?_; (case hd => rfl); (case hg => rfl); (case hr => first | (go_simp; done) | (go_simp; rfl)); (case hp => exact (Reps.none _ _)); intro v332 w9 ho10 hb hg_ hnew_; clear hg_ hnew_; (first | rw [← Ny331.out] at ho10 | (simp only [Int.reduceToNat] at ho10; rw [← Ny331.out] at ho10)); have HO333 := mk0 (Kd.N_lower ho10 (below_size (by with_reducible repeat (first | exact HB.out | apply ba_ | apply bn_ | apply bd_)))); replace HB := mk0 (below_step (by with_reducible repeat (first | exact HB.out | apply ba_ | apply bn_ | apply bd_)) hb); clear hb ho10))
  go_loopg [5, 6] k (fun kq v5 v6 w' => ∃ (x5_1 : List (List Int)) (x6_1 : Int), v6 = .int .i64 x6_1 ∧ Aside0 (spec_orders.l0 kq l0 l1 x5_1 x6_1 = some r) ∧ Aside0 (kq ≤ k) ∧ Aside0 (Kd.N (Kd.slice 3 (Kd.int .i64)) 24 w' w.heap.size (fun k_ => (w.heap.size ≤ k_)) v5 x5_1) ∧ Aside0 (Below w.heap.size w w'))
  case atStart => exact ⟨(y331), (0), (by first | rfl | (simp; done) | (simp [*]; done)), H', ⟨Nat.le_refl _⟩, ⟨by (with_reducible repeat (first | apply Na_ | apply Nn_ | apply Nd_)); exact HO333.out⟩, ⟨by with_reducible repeat (first | exact HB.out | apply ba_ | apply bn_ | apply bd_)⟩⟩
  case round =>
   clear H'
   try clear c1
   try clear p2
   try clear c3
   try clear c3b0
   try clear c3b1
   try clear c3b2
   obtain ⟨x5_1, x6_1, rfl, HA, HK1, HO_5, HB⟩ := hrel
   cases gk with
   | zero => exact absurd HA.out (by simp [spec_orders.l0])
   | succ k1 =>
    have H := HA.out
    clear HA
    simp only [spec_orders.l0] at H
    by_cases c11 : x6_1 < (l0.length : Int)
    ·
     rw [if_pos c11] at H
     have c11b0 : decide (x6_1 < (l0.length : Int)) = true := decide_eq_true c11
     clear c11
     have HC12 := mk0 H
     clear H
     go_upto_region 7 with (fail)
     go_cut [34] (fun v34 wc => ∃ (kq : Nat) (x34_11 : Bool), v34 = .bool x34_11 ∧ Aside0 (spec_orders.j1 kq l0 l1 x5_1 x6_1 x34_11 = some r) ∧ Aside0 (kq ≤ k1) ∧ Aside0 (Kd.N (Kd.slice 3 (Kd.int .i64)) 24 wc w.heap.size (fun k_ => (w.heap.size ≤ k_)) u5 x5_1) ∧ Aside0 (Below w.heap.size w wc))
     case first =>
      have H := HC12.out
      clear HC12
      replace H := bE_ H
      obtain ⟨t334, A130, H⟩ := H
      have A13 := mk0 A130
      clear A130
      by_cases c14 : t334 = true
      ·
       subst c14
       rw [if_pos rfl] at H
       have H' := mk0 H
       clear H
       go_wp2_with (first | ((with_reducible refine gate_callee (f := 66) rfl ?_); refine goesL_ (some 24) rfl rfl Tryz.func66 (by kernel_rfl) rfl #[.slice A1 l1.length c1, .int .i64 x6_1] rfl (by (try simp only [List.map_toArray, List.map_cons, List.map_nil]); first | done | rfl | (simp only [List.length_drop, List.length_take]; rfl)) ?_; (with_reducible refine (spec_isIn.calls k1 _ _ l1 x6_1 true _ ?side1 ?side2 A13.out).mono ?_); (case side1 => repeat (first | exact (Kd.C_below HR1.out HB.out) | (with_reducible first | refine Ca_ ?_ _ | refine Cn_ ?_ _ | refine Cd_ ?_))); (case side2 => exact HC1.out); rintro e w' ⟨rfl, ⟨nd, rfl⟩⟩; refine ⟨_, rfl, ?_⟩))
       go_meet
       case rel => exact ⟨_, (false), (by first | rfl | (simp; done) | (simp [*]; done)), H', ⟨by have := HK1.out; first | omega | exact Nat.le_refl _⟩, ⟨by (with_reducible repeat (first | apply Na_ | apply Nn_ | apply Nd_)); exact HO_5.out⟩, ⟨by with_reducible repeat (first | exact HB.out | apply ba_ | apply bn_ | apply bd_)⟩⟩
      ·
       replace c14 := Bool.eq_false_iff.mpr c14
       subst c14
       rw [if_neg (show ¬ (false = true) by decide)] at H
       by_cases c15 : 0 ≤ x6_1
       ·
        rw [if_pos c15] at H
        have c15b0 : decide (0 ≤ x6_1) = true := decide_eq_true c15
        clear c15
        (first | rw [c15b0] | (simp only [i64_w, i32_w]; rw [c15b0]) | skip)
        replace H := bE_ H
        obtain ⟨t336, A160, H⟩ := H
        have A16 := mk0 A160
        clear A160
        have H' := mk0 H
        clear H
        go_wp2_with (first | ((with_reducible refine gate_callee (f := 66) rfl ?_); refine goesL_ (some 24) rfl rfl Tryz.func66 (by kernel_rfl) rfl #[.slice A1 l1.length c1, .int .i64 x6_1] rfl (by (try simp only [List.map_toArray, List.map_cons, List.map_nil]); first | done | rfl | (simp only [List.length_drop, List.length_take]; rfl)) ?_; (with_reducible refine (spec_isIn.calls k1 _ _ l1 x6_1 false _ ?side1 ?side2 A13.out).mono ?_); (case side1 => repeat (first | exact (Kd.C_below HR1.out HB.out) | (with_reducible first | refine Ca_ ?_ _ | refine Cn_ ?_ _ | refine Cd_ ?_))); (case side2 => exact HC1.out); rintro e w' ⟨rfl, ⟨nd, rfl⟩⟩; refine ⟨_, rfl, ?_⟩; have p335 : 0 ≤ (x6_1 : Int) := od_ (by with_reducible assumption); have q335 : x6_1 < (l0.length : Int) := od_ (by with_reducible assumption); obtain ⟨ad335, A335_1, c335_1, e335, hx335_0, hx335_1, hx335_2, hx335_3, hl335_1, hi335_1⟩ := at_T41 HR0.out x6_1 p335 q335; cases e335; replace hx335_0 := (HB.out.cell (World.block_lt_of_cell? w _ hx335_0)).trans hx335_0; replace hx335_1 := (HB.out.cell (World.block_lt_of_cell? w _ hx335_1)).trans hx335_1; replace hx335_2 := (HB.out.cell (World.block_lt_of_cell? w _ hx335_2)).trans hx335_2; replace hx335_3 := (HB.out.cell (World.block_lt_of_cell? w _ hx335_3)).trans hx335_3; have HR335_1 := mk0 hi335_1; have HC335_1 := mk0 hl335_1; clear hi335_1 hl335_1; replace p335 := eq_true p335; replace q335 := eq_true q335) | (go_at_call 67; (with_reducible refine (spec_allDone.calls k1 _ _ ((rd_T41 l0 x6_1).f1) _ _ l1 t336 _ ?side1 ?side2 ?side3 ?side4 A16.out).mono ?_); (case side1 => repeat (first | exact (Kd.C_below HR335_1.out (by with_reducible repeat (first | exact HB.out | apply ba_ | apply bn_ | apply bd_))) | (with_reducible first | refine Ca_ ?_ _ | refine Cn_ ?_ _ | refine Cd_ ?_))); (case side2 => exact HC335_1.out); (case side3 => repeat (first | exact (Kd.C_below HR1.out (by with_reducible repeat (first | exact HB.out | apply ba_ | apply bn_ | apply bd_))) | (with_reducible first | refine Ca_ ?_ _ | refine Cn_ ?_ _ | refine Cd_ ?_))); (case side4 => exact HC1.out); rintro e w' ⟨rfl, ⟨nd, rfl⟩⟩))
        go_meet
        case rel => exact ⟨_, (t336), (by first | rfl | (simp; done) | (simp [*]; done)), H', ⟨by have := HK1.out; first | omega | exact Nat.le_refl _⟩, ⟨by (with_reducible repeat (first | apply Na_ | apply Nn_ | apply Nd_)); exact HO_5.out⟩, ⟨by with_reducible repeat (first | exact HB.out | apply ba_ | apply bn_ | apply bd_)⟩⟩
       ·
        rw [if_neg c15] at H
        exact nn_ H
     case rest =>
      clear HC12
      try clear c1
      try clear p2
      try clear c3
      try clear c3b0
      try clear c3b1
      try clear c3b2
      try clear p3
      try clear q3
      try clear hx3
      try clear c6
      try clear c11
      try clear c11b0
      try clear c14
      try clear c15
      try clear c15b0
      try clear hx335_0
      try clear hx335_1
      try clear hx335_2
      try clear hx335_3
      try clear p2
      try clear p335
      try clear q335
      obtain ⟨kq, x34_11, rfl, HA, HJ11, HO_5, HB⟩ := hcut
      cases kq with
      | zero => exact absurd HA.out (by simp [spec_orders.j1])
      | succ kj11 =>
       have H := HA.out
       clear HA
       simp only [spec_orders.j1] at H
       by_cases c17 : x34_11 = true
       ·
        subst c17
        rw [if_pos rfl] at H
        replace H := bE_ H
        obtain ⟨t337, A180, H⟩ := H
        have A18 := mk0 A180
        clear A180
        by_cases c19 : t337.length < 17592186044416
        ·
         rw [if_pos c19] at H
         have LMc19 := mk0 c19
         clear c19
         obtain ⟨y340, hy340⟩ : ∃ y_ : List Int, y_ = (t337 ++ [x6_1]) := ⟨_, rfl⟩
         replace H : ((spec_orders.f kj11 l0 y340).bind fun t343 => (if x5_1.length + t343.length < 5864062014805 then (spec_orders.l0 kj11 l0 l1 (x5_1 ++ t343) (wrap64 (x6_1 + 1))) else (none))) = some r := by first | (rw [hy340]; with_reducible exact H) | (rw [hy340]; exact (Option.bind_some _ _).symm.trans H) | (rw [hy340]; exact H) | exact H
         have Ny340 := mk0 hy340
         clear hy340
         replace H := bE_ H
         obtain ⟨t343, A200, H⟩ := H
         have A20 := mk0 A200
         clear A200
         by_cases c21 : x5_1.length + t343.length < 5864062014805
         ·
          rw [if_pos c21] at H
          have LMc21 := mk0 c21
          clear c21
          obtain ⟨y346, hy346⟩ : ∃ y_ : List (List Int), y_ = (x5_1 ++ t343) := ⟨_, rfl⟩
          replace H : (spec_orders.l0 kj11 l0 l1 y346 (wrap64 (x6_1 + 1))) = some r := by first | (rw [hy346]; with_reducible exact H) | (rw [hy346]; exact (Option.bind_some _ _).symm.trans H) | (rw [hy346]; exact H) | exact H
          have Ny346 := mk0 hy346
          clear hy346
          have H' := mk0 H
          clear H
          go_wp2_with (first | ((with_reducible refine gate_callee (f := 38) rfl ?_); refine goesL_ (some 38) rfl rfl Tryz.func38 (by kernel_rfl) rfl #[.slice A1 l1.length c1] rfl (by (try simp only [List.map_toArray, List.map_cons, List.map_nil]); first | done | rfl | (simp only [List.length_drop, List.length_take]; rfl)) ?_; (with_reducible refine (spec_copyInts.calls _ _ l1 t337 _ ?side1 ?side2 A18.out).mono ?_); (case side1 => repeat (first | exact (Kd.C_below HR1.out HB.out) | (with_reducible first | refine Ca_ ?_ _ | refine Cn_ ?_ _ | refine Cd_ ?_))); (case side2 => exact HC1.out); rintro e w22 ⟨v338, rfl, ho0, hb⟩; refine ⟨_, rfl, ?_⟩; replace HO_5 := mk0 (Kd.N_elder' (by (with_reducible repeat (first | apply Na_ | apply Nn_ | apply Nd_)); exact HO_5.out) (Kd.R_base ho0) hb); have HO339 := mk0 (Kd.R_lower (Kd.R_newM (M := fun k_ => (w.heap.size ≤ k_)) ho0 (below_size (by with_reducible repeat (first | exact HB.out | apply ba_ | apply bn_ | apply bd_))) (fun k_ h_ => h_)) (below_size (by with_reducible repeat (first | exact HB.out | apply ba_ | apply bn_ | apply bd_)))); replace HB := mk0 (below_step (by with_reducible repeat (first | exact HB.out | apply ba_ | apply bn_ | apply bd_)) hb); clear hb ho0) | ((with_reducible refine gate_builtin (b := .append) (xs := #[.tmp 38, .tmp 40]) rfl ?_); at_builtin; refine Kd.R_append (Kd.int .i64) (w0 := w) w.heap.size rfl (.tmp 38) (.tmp 40) 24 3 (.int .i64 0) 8 rfl Tryz.underlying24 info3 rfl (by decide) (by omega) v338 t337 x6_1 [.int .i64 x6_1] (fun k_ => (w.heap.size ≤ k_)) (fun _ => False) rfl rfl ?aP (fun _ hk => hk.elim) ?aF ?aO ?aB ?aS ?aL ?_; (case aP => exact rfl); (case aB => exact (by with_reducible repeat (first | exact HB.out | apply ba_ | apply bn_ | apply bd_))); (case aF => exact (fun k_ hk => (Nat.le_trans (below_size (by with_reducible repeat (first | exact HB.out | apply ba_ | apply bn_ | apply bd_))) hk))); (case aO => exact (by (with_reducible repeat (first | apply Ra_ | apply Rn_ | apply Rd_)); exact Kd.R_mono HO339.out (fun _ hk => hk.1))); (case aS => exact (below_size (by with_reducible repeat (first | exact HB.out | apply ba_ | apply bn_ | apply bd_)))); (case aL => have := LMc19.out; omega); intro v341 w23 ho hb hg hat; rw [← Ny340.out] at ho; replace HO_5 := mk0 (Kd.N_afterv (ok := (fun k_ => (w.heap.size ≤ k_))) (by (with_reducible repeat (first | apply Na_ | apply Nn_ | apply Nd_)); exact HO_5.out) hg hat); replace HB := mk0 (hb); have HO342 := mk0 (ho); clear HO339; clear ho hb hg hat; obtain ⟨Ao24, co24, eo24⟩ := Kd.R_slice HO342.out; subst eo24) | ((with_reducible refine gate_callee (f := 37) rfl ?_); refine goesL_ (some 42) rfl rfl Tryz.func37 (by kernel_rfl) rfl #[.slice A0 l0.length c0, .slice Ao24 y340.length co24] rfl (by (try simp only [List.map_toArray, List.map_cons, List.map_nil]); first | done | rfl | (simp only [List.length_drop, List.length_take]; rfl)) ?_; (with_reducible refine (ih kj11 (by have := HK1.out; have := HJ11.out; omega) _ _ l0 _ _ y340 t343 _ ?side1 ?side2 ?side3 ?side4 A20.out).mono ?_); (case side1 => repeat (first | exact (Kd.C_below HR0.out HB.out) | (with_reducible first | refine Ca_ ?_ _ | refine Cn_ ?_ _ | refine Cd_ ?_))); (case side2 => exact HC0.out); (case side3 => repeat (first | exact (Kd.R_reads' HO342.out).2.2 | (with_reducible first | refine Ca_ ?_ _ | refine Cn_ ?_ _ | refine Cd_ ?_))); (case side4 => exact (Kd.R_reads' HO342.out).2.1); rintro e w25 ⟨v344, rfl, ho0, hb⟩; refine ⟨_, rfl, ?_⟩; have HO345 := mk0 (Kd.N_lower (Kd.N_mono (ok' := fun k_ => (w.heap.size ≤ k_) ∧ some k_ ≠ (u5 : Value).ownBlock ∧ some k_ ≠ (.slice Ao24 y340.length co24 : Value).ownBlock) ho0 (fun k_ hk_ => ⟨(Nat.le_trans (below_size (by with_reducible repeat (first | exact HB.out | apply ba_ | apply bn_ | apply bd_))) hk_), (Kd.fresh' (Kd.N_lt (by (with_reducible repeat (first | apply Na_ | apply Nn_ | apply Nd_)); exact HO_5.out)) k_ hk_), (Kd.fresh' (Kd.R_lt (by (with_reducible repeat (first | apply Ra_ | apply Rn_ | apply Rd_)); exact HO342.out)) k_ hk_)⟩)) (below_size (by with_reducible repeat (first | exact HB.out | apply ba_ | apply bn_ | apply bd_)))); replace HO_5 := mk0 (Kd.N_elder' (by (with_reducible repeat (first | apply Na_ | apply Nn_ | apply Nd_)); exact HO_5.out) (Kd.N_base ho0) hb); replace HO342 := mk0 (Kd.R_below (by (with_reducible repeat (first | apply Ra_ | apply Rn_ | apply Rd_)); exact HO342.out) hb); replace HB := mk0 (below_step (by with_reducible repeat (first | exact HB.out | apply ba_ | apply bn_ | apply bd_)) hb); clear hb ho0; obtain ⟨Ao27, co27, eo27⟩ := Kd.N_slice HO345.out; subst eo27) | ((with_reducible refine gate_builtin (b := .append) (xs := #[.tmp 35, .tmp 42]) rfl ?_); at_builtin; refine Kd.N_append_rows (Kd.slice 3 (Kd.int .i64)) (w0 := w) w.heap.size rfl (.tmp 35) (.tmp 42) 65 24 (.slice none 0 0) 24 rfl Tryz.underlying65 info24 rfl (by decide) (by omega) u5 x5_1 t343 _ _ _ (fun k_ => (w.heap.size ≤ k_) ∧ some k_ ≠ (.slice Ao24 y340.length co24 : Value).ownBlock) (fun k_ => ((fun k_ => (w.heap.size ≤ k_) ∧ some k_ ≠ (.slice Ao24 y340.length co24 : Value).ownBlock)) k_ ∧ some k_ ≠ (u5 : Value).ownBlock) rfl rfl ?aO ?aR (fun _ hk => hk) ?aF ?aB ?aS ?aL ?_; (case aR => exact (by skip; exact Kd.N_F (Kd.N_mono (ok' := (fun k_ => ((fun k_ => (w.heap.size ≤ k_) ∧ some k_ ≠ (.slice Ao24 y340.length co24 : Value).ownBlock)) k_ ∧ some k_ ≠ (u5 : Value).ownBlock)) (HO345.out) (fun k_ hk => ⟨⟨hk.1, hk.2.2⟩, hk.2.1⟩)))); (case aB => exact (by with_reducible repeat (first | exact HB.out | apply ba_ | apply bn_ | apply bd_))); (case aF => exact (fun k_ hk => ⟨(Nat.le_trans (below_size (by with_reducible repeat (first | exact HB.out | apply ba_ | apply bn_ | apply bd_))) hk), Kd.fresh' (Kd.R_lt (by (with_reducible repeat (first | apply Ra_ | apply Rn_ | apply Rd_)); exact HO342.out)) k_ hk⟩)); (case aO => exact (by (with_reducible repeat (first | apply Na_ | apply Nn_ | apply Nd_)); exact Kd.N_mono HO_5.out (fun _ hk => ⟨hk.1.1, hk.1.2⟩))); (case aS => exact (below_size (by with_reducible repeat (first | exact HB.out | apply ba_ | apply bn_ | apply bd_)))); (case aL => have := LMc21.out; omega); intro v347 w26 ho hb hg hat; rw [← Ny346.out] at ho; replace HO342 := mk0 (Kd.R_over' (by (with_reducible repeat (first | apply Ra_ | apply Rn_ | apply Rd_)); exact HO342.out) (Kd.N_typed (by (with_reducible repeat (first | apply Na_ | apply Nn_ | apply Nd_)); exact HO_5.out)) (by decide) hg); replace HO345 := mk0 (Kd.N_afterv (ok := (fun k_ => (w.heap.size ≤ k_) ∧ some k_ ≠ (.slice Ao24 y340.length co24 : Value).ownBlock)) (by (with_reducible repeat (first | apply Na_ | apply Nn_ | apply Nd_)); exact Kd.N_mono HO345.out (fun _ hk => ⟨⟨hk.1, hk.2.2⟩, hk.2.1⟩)) hg hat); replace HB := mk0 (hb); have HO348 := mk0 (ho); clear HO_5; clear ho hb hg hat))
          go_roundg kj11
          case measure => have := HK1.out; have := HJ11.out; omega
          case rel => exact ⟨(y346), (wrap64 (x6_1 + 1)), (by first | rfl | (simp; done) | (simp [*]; done)), H', ⟨by have := HK1.out; have := HJ11.out; omega⟩, ⟨by (with_reducible repeat (first | apply Na_ | apply Nn_ | apply Nd_)); exact Kd.N_mono HO348.out (fun _ hk => hk.1)⟩, ⟨by with_reducible repeat (first | exact HB.out | apply ba_ | apply bn_ | apply bd_)⟩⟩
         ·
          rw [if_neg c21] at H
          exact nn_ H
        ·
         rw [if_neg c19] at H
         exact nn_ H
       ·
        replace c17 := Bool.eq_false_iff.mpr c17
        subst c17
        rw [if_neg (show ¬ (false = true) by decide)] at H
        have H' := mk0 H
        clear H
        go_wp2
        go_roundg kj11
        case measure => have := HK1.out; have := HJ11.out; omega
        case rel => exact ⟨(x5_1), (wrap64 (x6_1 + 1)), (by first | rfl | (simp; done) | (simp [*]; done)), H', ⟨by have := HK1.out; have := HJ11.out; omega⟩, ⟨by (with_reducible repeat (first | apply Na_ | apply Nn_ | apply Nd_)); exact HO_5.out⟩, ⟨by with_reducible repeat (first | exact HB.out | apply ba_ | apply bn_ | apply bd_)⟩⟩
    ·
     rw [if_neg c11] at H
     have c11b0 : decide (x6_1 < (l0.length : Int)) = false := decide_eq_false c11
     clear c11
     obtain rfl := Option.some.inj H
     go_wp2
     go_ret
     exact ⟨_, by first | rfl | (simp [errW_none, errW_some] <;> rfl) | (simp [*, errW_none, errW_some] <;> rfl), by (with_reducible repeat (first | apply Na_ | apply Nn_ | apply Nd_)); exact HO_5.out, by with_reducible repeat (first | exact HB.out | apply ba_ | apply bn_ | apply bd_)⟩
end Go.Proofs.YtkljcdghbefceaaGreatDoor.PFnValidLog

namespace Go.Proofs.YtkljcdghbefceaaGreatDoor.PFnValidLog
set_option linter.unusedVariables false
set_option linter.unusedSimpArgs false
open Go Go.RowKit
open Go.Proofs.YtkljcdghbefceaaGreatDoorW.PrintWords Go.Proofs.YtkljcdghbefceaaGreatDoorW.PrintLast Go.Proofs.YtkljcdghbefceaaGreatDoorW.PrintMore
theorem flat_len {α β : Type} {F : α → List β} {m : Nat} : ∀ (l : List α), (∀ x ∈ l, (F x).length ≤ m) → (l.flatMap F).length ≤ l.length * m
 | [], _ => by simp
 | x :: l, h => by
  rw [List.flatMap_cons, List.length_append, List.length_cons, Nat.succ_mul]
  have h1 := h x List.mem_cons_self
  have h2 := flat_len l (fun y hy => h y (List.mem_cons_of_mem _ hy))
  omega
theorem ordersN_len (g : List Tk) : ∀ (f : Nat) (l : List Nat), (ordersN g f l).length ≤ g.length ^ f
 | 0, l => by simp [ordersN]
 | f + 1, l => by
  unfold ordersN
  have h1 := flat_len (F := fun i => ordersN g f (l ++ [i])) (m := g.length ^ f) (nextN2 g l) (fun i _ => ordersN_len g f _)
  have h2 : (nextN2 g l).length ≤ g.length := filter_range_le _ _
  rw [Nat.pow_succ, Nat.mul_comm]
  exact Nat.le_trans h1 (Nat.mul_le_mul_right _ h2)
theorem pow5 {n f : Nat} (hn : n ≤ 5) (hf : f ≤ 5) : n ^ f ≤ 3125 := Nat.le_trans (Nat.pow_le_pow_left hn f) (Nat.pow_le_pow_right (by omega) hf)
theorem canN_b (g : List Tk) (l : List Nat) (i : Nat) : canN g l i = (!decide ((i : Int) ∈ ints l) && allDoneB (rdTk g i).f1 (ints l)) := by
 unfold canN
 rw [decide_eq_decide.2 (mem_ints (i := i) (l := l))]
 rfl
theorem orders_l0 {g : List Tk} {f : Nat} {l : List Nat} (hn : g.length ≤ 5) (hl : l.length + (f + 1) = g.length) (ih : ∀ i : Nat, Gets (fun k => spec_orders.f k g (ints (l ++ [i]))) (fun r => r = (ordersN g f (l ++ [i])).map ints)) :
  ∀ (d : Nat) (acc : List (List Int)) (i : Nat), i + d = g.length → acc.length + d * 3125 ≤ 100000 → Gets (fun k => spec_orders.l0 k g (ints l) acc (i : Int)) (fun r => r = acc ++ (((List.range' i d).filter (canN g l)).flatMap fun i => (ordersN g f (l ++ [i])).map ints))
 | 0, acc, i, hi, ha => by
  refine Gets.step (fun k => by rw [spec_orders.l0]) ?_
  exact Gets.neg (by omega) (Gets.ret (by simp))
 | d + 1, acc, i, hi, ha => by
  have ha2 : acc.length + d * 3125 ≤ 100000 := Nat.le_trans (Nat.add_le_add_left (Nat.mul_le_mul_right _ (Nat.le_succ d)) _) ha
  have ha3 : acc.length + 3125 + d * 3125 ≤ 100000 := by rw [Nat.succ_mul] at ha; rw [Nat.add_assoc, Nat.add_comm 3125]; exact ha
  have ha4 : acc.length ≤ 100000 := Nat.le_trans (Nat.le_add_right _ _) ha2
  clear ha
  have hnx := fun acc' h => orders_l0 hn hl ih d acc' (i + 1) (by omega) h
  have hw : wrap64 ((i : Int) + 1) = ((i + 1 : Nat) : Int) := by rw [w64 (by omega) (by omega)]; omega
  have hll : (ints l).length ≤ 1000000 := by rw [ints_length]; omega
  have hf0 : canN g l i = false → (List.range' i (d + 1)).filter (canN g l) = (List.range' (i + 1) d).filter (canN g l) := fun h => by rw [List.range'_succ, List.filter_cons, h]; rfl
  have hf1 : canN g l i = true → (List.range' i (d + 1)).filter (canN g l) = i :: (List.range' (i + 1) d).filter (canN g l) := fun h => by rw [List.range'_succ, List.filter_cons, h]; rfl
  generalize (List.range' i (d + 1)).filter (canN g l) = fl at hf0 hf1 ⊢
  refine Gets.step (fun k => by rw [spec_orders.l0]) ?_
  refine Gets.pos (by omega) ?_
  cases hm : decide ((i : Int) ∈ ints l) with
  | true =>
   have hc : canN g l i = false := by rw [canN_b, hm]; rfl
   rw [hf0 hc]
   refine Gets.bind (P := fun t => t = true) (Gets.ret hm) (fun t ht => ?_)
   subst ht
   refine Gets.pos rfl ?_
   refine Gets.step (fun k => by rw [spec_orders.j1]) ?_
   refine Gets.neg (by simp) ?_
   rw [hw]
   exact hnx acc ha2
  | false =>
   refine Gets.bind (P := fun t => t = false) (Gets.ret hm) (fun t ht => ?_)
   subst ht
   refine Gets.neg (by simp) ?_
   refine Gets.pos (by omega) ?_
   refine Gets.bind (P := fun t => t = canN g l i) (Gets.ret (r := allDoneB (rdTk g i).f1 (ints l)) (by rw [canN_b, hm]; rfl)) (fun t ht => ?_)
   subst ht
   refine Gets.step (fun k => by rw [spec_orders.j1]) ?_
   cases hc : canN g l i with
   | false =>
    rw [hf0 hc]
    refine Gets.neg (by simp) ?_
    rw [hw]
    exact hnx acc ha2
   | true =>
    rw [hf1 hc]
    refine Gets.pos rfl ?_
    rw [copyInts_some (ints l) hll]
    simp only [Option.bind_some]
    refine Gets.pos (by omega) ?_
    have e : ints l ++ [(i : Int)] = ints (l ++ [i]) := by simp [ints]
    rw [e]
    refine Gets.bind (ih i) (fun t ht => ?_)
    have hlen : t.length ≤ 3125 := by
     rw [ht, List.length_map]
     exact Nat.le_trans (ordersN_len g f _) (pow5 hn (by omega))
    refine Gets.pos (by omega) ?_
    rw [hw]
    refine Gets.mono (hnx (acc ++ t) (by rw [List.length_append]; exact Nat.le_trans (Nat.add_le_add_right (Nat.add_le_add_left hlen _) _) ha3)) (fun r hr => ?_)
    rw [hr, List.flatMap_cons, ht, List.append_assoc]
theorem orders_gets {g : List Tk} (hn : g.length ≤ 5) : ∀ (f : Nat) (l : List Nat), l.length + f = g.length → Gets (fun k => spec_orders.f k g (ints l)) (fun r => r = (ordersN g f l).map ints)
 | 0, l, hl => by
  have hll : (ints l).length ≤ 1000000 := by rw [ints_length]; omega
  refine Gets.step (fun k => by rw [spec_orders.f]) ?_
  refine Gets.pos (by rw [ints_length]; omega) ?_
  rw [copyInts_some (ints l) hll]
  exact Gets.ret (r := [ints l]) rfl
 | f + 1, l, hl => by
  refine Gets.step (fun k => by rw [spec_orders.f]) ?_
  refine Gets.neg (by rw [ints_length]; omega) ?_
  refine Gets.mono (orders_l0 hn hl (fun i => orders_gets hn f (l ++ [i]) (by rw [List.length_append, List.length_singleton]; omega)) g.length [] 0 (by omega) (by simp; omega)) (fun r hr => ?_)
  rw [hr, List.nil_append]
  show _ = ((nextN2 g l).flatMap fun i => ordersN g f (l ++ [i])).map ints
  rw [List.map_flatMap]
  unfold nextN2
  rw [List.range_eq_range']
end Go.Proofs.YtkljcdghbefceaaGreatDoor.PFnValidLog
namespace Go.Proofs.YtkljcdghbefceaaGreatDoor
open Go.RowKit Go.Shelf Bits
open Go.Proofs.YtkljcdghbefceaaGreatDoorW.PrintWords Go.Proofs.YtkljcdghbefceaaGreatDoorW.PrintLast Go.Proofs.YtkljcdghbefceaaGreatDoorW.PrintMore
open PFnValidLog
theorem orders_all (A : Option Addr) (c : Nat) (g : List Tk) (hg : g.length ≤ c) (hn : g.length ≤ 5) (A1 : Option Addr) (c1 : Nat) (w : World) (hr : kTk.C w A g.length g) :
  Calls Tryz.prog 37 #[.slice A g.length c, .slice A1 0 c1] w fun e w' => ∃ Ao co, e = .returned (.slice Ao ((ordersN g g.length []).map ints).length co) ∧ Kd.C (Kd.slice 3 (Kd.int .i64)) w' Ao ((ordersN g g.length []).map ints).length ((ordersN g g.length []).map ints) ∧ Below w.heap.size w w' := by
 obtain ⟨k0, r, hp, hk⟩ := orders_gets hn g.length [] (by simp)
 subst hp
 refine (spec_orders.calls k0 A c g A1 c1 [] _ w hr hg ⟨rfl, Nat.zero_le _, fun h => absurd h (Nat.lt_irrefl 0)⟩ (Nat.zero_le _) (hk k0 (Nat.le_refl _))).mono ?_
 rintro e w' ⟨v, rfl, hN, hB⟩
 obtain ⟨Ao, co, rfl⟩ := Kd.N_slice hN
 exact ⟨Ao, co, rfl, (Kd.N_reads' hN).2.2, hB⟩
theorem at_rows {w : World} {A : Option Addr} {n : Nat} {xs : List (List Int)} (h : Kd.C (Kd.slice 3 (Kd.int .i64)) w A n xs) (i : Nat) (h1 : i < n) : ∃ ad A1 c1, A = some ad ∧ w.cell? (ad.add i) = some (.slice A1 (xs.getD i []).length c1) ∧ (xs.getD i []).length ≤ c1 ∧ (Kd.int .i64).C w A1 (xs.getD i []).length (xs.getD i []) := by
 obtain ⟨ad, c, e, _, hK, hc0⟩ := Kd.C_get h [] (i : Int) (by omega) (by omega)
 have hc : ∀ j u, c[j]? = some u → w.cell? (ad.add (i * 1 + j)) = some u := hc0
 obtain ⟨A1, c1, rfl, l1, g1⟩ := hK
 have h2 := hc 0 _ rfl
 rw [Nat.mul_one, Nat.add_zero] at h2
 exact ⟨ad, A1, c1, e, h2, l1, g1⟩
end Go.Proofs.YtkljcdghbefceaaGreatDoor

namespace Go.Proofs.YtkljcdghbefceaaGreatDoor
set_option linter.unusedVariables false
set_option linter.unusedSimpArgs false
open Go.RowKit Go.Shelf Bits
open Go.Proofs.YtkljcdghbefceaaGreatDoorW.PrintWords Go.Proofs.YtkljcdghbefceaaGreatDoorW.PrintLast Go.Proofs.YtkljcdghbefceaaGreatDoorW.PrintMore
attribute [local go_sem] Oper.semAt_some
set_option maxRecDepth 100000 in
set_option maxHeartbeats 2000000 in
theorem validSearch_calls (A : Option Addr) (c : Nat) (g : List Tk) (A1 : Option Addr) (c1 : Nat) (rm : List Int) (wk : Int) (w : World) (hr : kTk.C w A g.length g) (hr1 : (Kd.int .i64).C w A1 rm.length rm) :
  Calls Tryz.prog 12 #[.slice A g.length c, .slice A1 rm.length c1, .int .i64 wk] w fun e w' => e = .returned (.bool (seaB g rm wk)) ∧ Below w.heap.size w w' := by
 have HV := fun b (h : specValid g = b) => validGraph_is b A c g (Lib.hid h) w hr
 have HR1 := Lib.hid hr1
 clear hr hr1
 cases h1 : specValid g with
 | false =>
  have HF : Hid (seaB g rm wk = false) := Lib.hid (by unfold seaB; rw [h1]; rfl)
  have HV := Lib.hid (HV _ h1)
  clear h1
  go_enter Tryz.func12, Tryz.ntmps12
  go_wp2_with (go_at_call 33; refine HV.out.mono ?_; rintro e w1 ⟨rfl, hB1⟩; have HB1 := Lib.hid hB1; clear hB1)
  go_ret
  exact ⟨by rw [HF.out]; rfl, HB1.out⟩
 | true =>
  have HVV := Lib.hid h1
  have HV := Lib.hid (HV _ h1)
  clear h1
  by_cases h5 : g.length ≤ 5
  ·
   have d5 : decide ((g.length : Int) ≤ 5) = true := decide_eq_true (by omega)
   have d5' : decide ((5 : Int) < (g.length : Int)) = false := decide_eq_false (by omega)
   have H5 := Lib.hid h5
   clear h5
   cases h2 : roomB rm with
   | false =>
    have HF : Hid (seaB g rm wk = false) := Lib.hid (by unfold seaB placeB; rw [h2, Bool.false_and, Bool.and_false, Bool.and_false])
    have H2 := Lib.hid h2
    clear h2
    go_enter Tryz.func12, Tryz.ntmps12
    go_wp2_with (first | (go_at_call 33; refine HV.out.mono ?_; rintro e w1 ⟨rfl, hB1⟩; have HB1 := Lib.hid hB1; clear hB1) | (go_at_call 34; refine (validRoom_is _ _ _ _ H2 _ (Kd.C_below HR1.out HB1.out)).mono ?_; rintro e w' ⟨rfl, rfl⟩))
    go_ret
    exact ⟨by rw [HF.out]; rfl, HB1.out⟩
   | true =>
    have H2 := Lib.hid h2
    have HF : Hid (seaB g rm wk = inB wk 1 4) := Lib.hid (by unfold seaB placeB; rw [HVV.out, decide_eq_true H5.out, h2]; rfl)
    clear h2
    cases h3 : inB wk 1 4 with
    | false =>
     have HF : Hid (seaB g rm wk = false) := Lib.hid (by rw [HF.out, h3])
     have H3 := Lib.hid h3
     clear h3
     go_enter Tryz.func12, Tryz.ntmps12
     go_wp2_with (first | (go_at_call 33; refine HV.out.mono ?_; rintro e w1 ⟨rfl, hB1⟩; have HB1 := Lib.hid hB1; clear hB1) | (go_at_call 34; refine (validRoom_is _ _ _ _ H2 _ (Kd.C_below HR1.out HB1.out)).mono ?_; rintro e w' ⟨rfl, rfl⟩) | (go_at_call 35; refine (inRange_is _ _ _ _ H3 _).mono ?_; rintro e w' ⟨rfl, rfl⟩))
     go_ret
     exact ⟨by rw [HF.out]; rfl, HB1.out⟩
    | true =>
     have HF : Hid (seaB g rm wk = true) := Lib.hid (by rw [HF.out, h3])
     have H3 := Lib.hid h3
     clear h3
     go_enter Tryz.func12, Tryz.ntmps12
     go_wp2_with (first | (go_at_call 33; refine HV.out.mono ?_; rintro e w1 ⟨rfl, hB1⟩; have HB1 := Lib.hid hB1; clear hB1) | (go_at_call 34; refine (validRoom_is _ _ _ _ H2 _ (Kd.C_below HR1.out HB1.out)).mono ?_; rintro e w' ⟨rfl, rfl⟩) | (go_at_call 35; refine (inRange_is _ _ _ _ H3 _).mono ?_; rintro e w' ⟨rfl, rfl⟩))
     go_ret
     exact ⟨by rw [HF.out]; rfl, HB1.out⟩
  ·
   have d5 : decide ((g.length : Int) ≤ 5) = false := decide_eq_false (by omega)
   have d5' : decide ((5 : Int) < (g.length : Int)) = true := decide_eq_true (by omega)
   have HF : Hid (seaB g rm wk = false) := Lib.hid (by unfold seaB; rw [decide_eq_false h5, Bool.false_and, Bool.and_false])
   clear h5
   go_enter Tryz.func12, Tryz.ntmps12
   go_wp2_with (go_at_call 33; refine HV.out.mono ?_; rintro e w1 ⟨rfl, hB1⟩; have HB1 := Lib.hid hB1; clear hB1)
   go_ret
   exact ⟨by rw [HF.out]; rfl, HB1.out⟩
theorem validSearch_is (b : Bool) (A : Option Addr) (c : Nat) (g : List Tk) (A1 : Option Addr) (c1 : Nat) (rm : List Int) (wk : Int) (hb : Hid (seaB g rm wk = b)) (w : World) (hr : kTk.C w A g.length g) (hr1 : (Kd.int .i64).C w A1 rm.length rm) :
  Calls Tryz.prog 12 #[.slice A g.length c, .slice A1 rm.length c1, .int .i64 wk] w fun e w' => e = .returned (.bool b) ∧ Below w.heap.size w w' := by
 rw [← hb.out]
 exact validSearch_calls A c g A1 c1 rm wk w hr hr1
theorem R_nilS (w : World) (base : Nat) : Kd.R (Kd.int .i64) 3 w base (fun _ => True) (.slice none 0 0) [] := Kd.R_of_own ⟨by simp [encs], .inl ⟨rfl, by simp [encs]⟩⟩ (fun _ _ => trivial)
end Go.Proofs.YtkljcdghbefceaaGreatDoor

namespace Go.Proofs.YtkljcdghbefceaaGreatDoor
set_option linter.unusedVariables false
set_option linter.unusedSimpArgs false
open Go.RowKit Go.Shelf Bits
open Go.Proofs.YtkljcdghbefceaaGreatDoorW.PrintWords Go.Proofs.YtkljcdghbefceaaGreatDoorW.PrintLast Go.Proofs.YtkljcdghbefceaaGreatDoorW.PrintMore
open PFnValidLog
attribute [local go_sem] Oper.semAt_some
theorem addr_zero (ad : Addr) : ad.add 0 = ad := by cases ad; simp [Addr.add]
theorem scan_some {E : List Nat → Int} (b L : List Nat) : scanO E (some (b, E b)) L = if E L < E b then some (L, E L) else some (b, E b) := rfl
theorem ord_end {g : List Tk} {rm : List Int} {wk : Int} {L : List Nat} (hs : seaB g rm wk = true) (h : IsOrd g L) : SOk (ordL g rm wk L L.length) ∧ (ordL g rm wk L L.length).length = g.length ∧ endS g (ordL g rm wk L L.length) g.length = endO g rm wk L := by
 obtain ⟨a1, a2, a3⟩ := seaB_facts hs
 have hok := specValid_TOk a1
 have hP := ord_part hok a3 h L.length (Nat.le_refl _)
 rw [List.take_length] at hP
 refine ⟨hP.sok hok h.nd, hP.len, ?_⟩
 unfold endO
 rw [rowO_all]
def OrdAt (A : Option Addr) (c : Nat) (g : List Tk) (A1 : Option Addr) (c1 : Nat) (rm : List Int) (wk : Int) (w : World) (L : List Nat) : Prop :=
 (∀ (A3 : Option Addr) (c3 : Nat) (W : World), Below w.heap.size w W → (Kd.int .i64).C W A3 L.length (ints L) → Calls Tryz.prog 14 #[.slice A g.length c, .slice A1 rm.length c1, .int .i64 wk, .slice A3 L.length c3] W fun e w' => ∃ Ao co, e = .returned (.slice Ao (ordL g rm wk L L.length).length co) ∧ (Kd.int .i64).C w' Ao (ordL g rm wk L L.length).length (ordL g rm wk L L.length) ∧ Below W.heap.size W w') ∧
 ∀ (A3 : Option Addr) (c3 : Nat) (W : World), Below w.heap.size w W → (Kd.int .i64).C W A3 (ordL g rm wk L L.length).length (ordL g rm wk L L.length) → Calls Tryz.prog 13 #[.slice A g.length c, .slice A3 (ordL g rm wk L L.length).length c3] W fun e w' => e = .returned (.int .i64 (endO g rm wk L)) ∧ Below W.heap.size W w'
theorem ordAt_is {A : Option Addr} {c : Nat} {g : List Tk} {A1 : Option Addr} {c1 : Nat} {rm : List Int} {wk : Int} {w : World} (hs : seaB g rm wk = true) (hr : kTk.C w A g.length g) (hr1 : (Kd.int .i64).C w A1 rm.length rm) {L : List Nat} (hL : IsOrd g L) : OrdAt A c g A1 c1 rm wk w L := by
 obtain ⟨a1, a2, a3⟩ := seaB_facts hs
 obtain ⟨e1, e2, e3⟩ := ord_end hs hL
 constructor
 ·
  intro A3 c3 W hB hC
  refine (sorder_calls A c g A1 c1 rm wk A3 c3 L a1 a3 hL W (Kd.C_below hr hB) (Kd.C_below hr1 hB) hC).mono ?_
  rintro e w' ⟨v, rfl, hR, hB'⟩
  obtain ⟨Ao, co, rfl, _, hC'⟩ := Kd.R_reads hR
  exact ⟨Ao, co, rfl, hC', hB'⟩
 ·
  intro A3 c3 W hB hC
  rw [← e3]
  exact endOf_calls A c g A3 c3 _ (specValid_TOk a1) e1 e2 W (Kd.C_below hr hB) hC
theorem R_nilB (w : World) (base : Nat) : Kd.R (Kd.int .i64) 3 w base (fun _ => True) (.slice none 0 0) [] := Kd.R_of_own ⟨by simp [encs], .inl ⟨rfl, by simp [encs]⟩⟩ (fun _ _ => trivial)
-- @IF loop.example/buildscheduler/spec.BestOrder
set_option maxRecDepth 1000000 in
set_option maxHeartbeats 8000000 in
theorem sBestOrder_calls (A : Option Addr) (c : Nat) (g : List Tk) (hgc : g.length ≤ c) (A1 : Option Addr) (c1 : Nat) (rm : List Int) (wk : Int) (w : World) (hr : kTk.C w A g.length g) (hr1 : (Kd.int .i64).C w A1 rm.length rm) :
  Calls Tryz.prog 15 #[.slice A g.length c, .slice A1 rm.length c1, .int .i64 wk] w fun e w' => ∃ v, e = .returned v ∧ Kd.R (Kd.int .i64) 3 w' w.heap.size (fun _ => True) v (ints (boN g rm wk)) ∧ Below w.heap.size w w' := by
 cases h1 : seaB g rm wk with
 | false =>
  have HF : Hid (ints (boN g rm wk) = []) := Lib.hid (by unfold boN; rw [h1]; rfl)
  have HV := Lib.hid (validSearch_is false A c g A1 c1 rm wk (Lib.hid h1) w hr hr1)
  clear h1 hr hr1
  go_enter Tryz.func15, Tryz.ntmps15
  go_wp2_with (go_at_call 12; refine HV.out.mono ?_; rintro e w1 ⟨rfl, hB1⟩; have HB1 := Lib.hid hB1; clear hB1)
  go_ret
  exact ⟨_, rfl, by rw [HF.out]; exact R_nilB _ _, HB1.out⟩
 | true =>
  have HV := Lib.hid (validSearch_is true A c g A1 c1 rm wk (Lib.hid h1) w hr hr1)
  obtain ⟨a1, a2, a3⟩ := seaB_facts h1
  have HALL := Lib.hid (fun (A' : Option Addr) (c' : Nat) (W : World) (hB : Below w.heap.size w W) => orders_all A c g hgc a2 A' c' W (Kd.C_below hr hB))
  have HOA := Lib.hid (fun (L : List Nat) (hL : L ∈ ordersN g g.length []) => ordAt_is (A := A) (c := c) (A1 := A1) (c1 := c1) h1 hr hr1 (ordersN_ord g.length [] .nil (by simp) L hL))
  have hne : 0 < (ordersN g g.length []).length := by
   have := ord_in a1 (top_ord a1)
   exact List.length_pos_of_mem this
  have hmx : (ordersN g g.length []).length ≤ 3125 := Nat.le_trans (ordersN_len g _ _) (pow5 a2 a2)
  have HL5 := Lib.hid (fun (L : List Nat) (hL : L ∈ ordersN g g.length []) => (ordersN_ord g.length [] .nil (by simp) L hL).len)
  have HBO : Hid (∀ b x, (ordersN g g.length []).foldl (scanO (endO g rm wk)) none = some (b, x) → boN g rm wk = b) := Lib.hid (fun b x h => by
   unfold boN bestP
   rw [if_pos h1, h]
   rfl)
  have hg5 := a2
  generalize hE : endO g rm wk = E at HBO
  have HOA2 : Hid (∀ L ∈ ordersN g g.length [], OrdAt A c g A1 c1 rm wk w L ∧ endO g rm wk L = E L) := Lib.hid (fun L hL => ⟨HOA.out L hL, by rw [hE]⟩)
  generalize ordersN g g.length [] = OS at HALL HOA HOA2 hne hmx HL5 HBO
  have HJ : Hid (∀ j, j < OS.length → OS.getD j [] ∈ OS ∧ (OS.map ints).getD j [] = ints (OS.getD j [])) := Lib.hid (fun j hj => by
   constructor
   ·
    rw [List.getD_eq_getElem?_getD, List.getElem?_eq_getElem hj]
    exact List.getElem_mem _
   ·
    rw [List.getD_eq_getElem?_getD, List.getD_eq_getElem?_getD, List.getElem?_map, List.getElem?_eq_getElem hj]
    rfl)
  have HML : Hid ((OS.map ints).length = OS.length) := Lib.hid (by simp)
  have HST : Hid (∀ j, j < OS.length → (OS.take (j + 1)).foldl (scanO E) none = scanO E ((OS.take j).foldl (scanO E) none) (OS.getD j [])) := Lib.hid (fun j hj => by
   rw [List.take_succ_eq_append_getElem hj, List.foldl_append, List.getD_eq_getElem?_getD, List.getElem?_eq_getElem hj]
   rfl)
  rw [HML.out] at HALL
  clear h1 hr hr1 a1 a2 a3 HOA hE
  go_enter Tryz.func15, Tryz.ntmps15
  go_upto_region 4 with (first | (go_at_call 12; refine HV.out.mono ?_; rintro e w1 ⟨rfl, hB1⟩; have hB1a : Below w.heap.size w (w1.alloc (.cells #[] 3)) := hB1.alloc hB1.size _; have HB1 := Lib.hid hB1a; clear hB1 hB1a) | (go_at_call 37; refine (HALL.out _ _ _ HB1.out).mono ?_; rintro e w2 ⟨Ao, co, rfl, hC2, hB2⟩; have HB2 := Lib.hid (HB1.out.trans (hB2.mono HB1.out.size)); have HC2 := Lib.hid hC2; clear hC2 hB2))
  obtain ⟨ado, A5, c5, rfl, cx, hl5, hC5⟩ := at_rows HC2.out 0 hne
  obtain ⟨hm0, he0⟩ := HJ.out 0 hne
  rw [addr_zero, he0] at cx
  rw [he0] at hl5 hC5
  have HL0 := Lib.hid (HL5.out _ hm0)
  obtain ⟨⟨q1, q2⟩, q3⟩ := HOA2.out _ hm0
  rw [q3] at q2
  rw [ints_length] at cx hl5 hC5
  have HS1 : Hid ((OS.take 1).foldl (scanO E) none = some (OS.getD 0 [], E (OS.getD 0 []))) := Lib.hid (by
   rw [HST.out 0 hne]
   rfl)
  have HQ1 := Lib.hid q1
  have HQ2 := Lib.hid q2
  have HC5 := Lib.hid hC5
  clear q1 q2 q3 he0 hm0 hC5
  generalize OS.getD 0 [] = L0 at cx hl5 HC5 HQ1 HQ2 HS1 HL0
  have hnei : (0 : Int) < (OS.length : Int) := by omega
  go_wp2_with (first | (go_at_call 14; refine (HQ1.out _ _ _ HB2.out HC5.out).mono ?_; rintro e w3 ⟨A6, c6, rfl, hC6, hB6⟩; have HB6 := Lib.hid hB6; have HC6 := Lib.hid hC6; clear hC6 hB6) | (go_at_call 13; refine (HQ2.out _ _ _ (HB2.out.trans (HB6.out.mono HB2.out.size)) HC6.out).mono ?_; rintro e w4 ⟨rfl, hB7⟩; have HB7 := Lib.hid (HB6.out.trans (hB7.mono HB6.out.size)); clear hB7))
  go_loopw [8, 9, 10] (fun out least i wr => ∃ (j : Nat) (b : List Nat) (Ab : Option Addr) (cb : Nat), 1 ≤ j ∧ j ≤ OS.length ∧ i = .int .i64 (j : Nat) ∧ out = .slice Ab b.length cb ∧ b.length ≤ cb ∧ Hid (b.length = g.length) ∧ Hid ((Kd.int .i64).C w2 Ab b.length (ints b)) ∧ least = .int .i64 (E b) ∧ Hid ((OS.take j).foldl (scanO E) none = some (b, E b)) ∧ Below w2.heap.size w2 wr) (fun _ _ i _ => OS.length - (intOf i).toNat)
  case atStart => exact ⟨1, L0, A5, c5, Nat.le_refl _, hne, rfl, rfl, hl5, HL0, HC5, rfl, HS1, HB7.out⟩
  case round =>
   clear HQ1 HQ2 HC5 HS1 HB6 HB7 HC6 cx hl5 HL0
   obtain ⟨j, b, Ab, cb, hj1, hj, rfl, rfl, hbc, HBL, HCB, rfl, HSJ, hB⟩ := hrel
   by_cases hjl : j < OS.length
   ·
    have djl : decide ((j : Int) < (OS.length : Int)) = true := decide_eq_true (by omega)
    have hji : (j : Int) < (OS.length : Int) := by omega
    obtain ⟨ado2, A7, c7, e7, cx, hl7, hC7⟩ := at_rows HC2.out j hjl
    cases e7
    obtain ⟨hmj, hej⟩ := HJ.out j hjl
    have HLJ := Lib.hid (HL5.out _ hmj)
    obtain ⟨⟨q1, q2⟩, q3⟩ := HOA2.out _ hmj
    have HS2 := Lib.hid (HST.out j hjl)
    rw [hej] at cx hl7 hC7
    rw [q3] at q2
    rw [ints_length] at cx hl7 hC7
    have HQ1 := Lib.hid q1
    have HQ2 := Lib.hid q2
    have HC7 := Lib.hid hC7
    clear q1 q2 q3 hej hmj hC7
    generalize OS.getD j [] = Lj at cx hl7 HC7 HQ1 HQ2 HS2 HLJ
    replace cx := (hB.cell (World.block_lt_of_cell? w2 _ cx)).trans cx
    have HB := Lib.hid hB
    clear hB
    have HS3 : Hid ((OS.take (j + 1)).foldl (scanO E) none = if E Lj < E b then some (Lj, E Lj) else some (b, E b)) := Lib.hid (by
     rw [HS2.out, HSJ.out]
     rfl)
    by_cases hlt : E Lj < E b
    ·
     have dlt : decide (E Lj < E b) = true := decide_eq_true hlt
     rw [if_pos hlt] at HS3
     clear hlt
     obtain ⟨x, hx⟩ : ∃ x, x = E Lj := ⟨_, rfl⟩
     rw [← hx] at HQ2 dlt
     have HX := Lib.hid hx
     clear hx
     go_wp2_with (first | (go_at_call 14; refine (HQ1.out _ _ _ (HB2.out.trans (HB.out.mono HB2.out.size)) (Kd.C_below HC7.out HB.out)).mono ?_; rintro e w3 ⟨A6, c6, rfl, hC6, hB6⟩; have HB6 := Lib.hid (HB.out.trans (hB6.mono HB.out.size)); have HC6 := Lib.hid hC6; replace cx := (hB6.cell (World.block_lt_of_cell? _ _ cx)).trans cx; clear hC6 hB6) | (go_at_call 13; refine (HQ2.out _ _ _ (HB2.out.trans (HB6.out.mono HB2.out.size)) HC6.out).mono ?_; rintro e w4 ⟨rfl, hB7⟩; have HB7 := Lib.hid (HB6.out.trans (hB7.mono HB6.out.size)); replace cx := (hB7.cell (World.block_lt_of_cell? _ _ cx)).trans cx; clear hB7))
     go_roundw
     case rel => exact ⟨j + 1, Lj, A7, c7, by omega, by omega, by go_num, rfl, hl7, HLJ, HC7, by rw [HX.out], HS3, HB7.out⟩
     case measure => simp [intOf]; omega
    ·
     have dlt : decide (E Lj < E b) = false := decide_eq_false hlt
     rw [if_neg hlt] at HS3
     clear hlt
     generalize E Lj = x at HQ2 HS3 dlt
     go_wp2_with (first | (go_at_call 14; refine (HQ1.out _ _ _ (HB2.out.trans (HB.out.mono HB2.out.size)) (Kd.C_below HC7.out HB.out)).mono ?_; rintro e w3 ⟨A6, c6, rfl, hC6, hB6⟩; have HB6 := Lib.hid (HB.out.trans (hB6.mono HB.out.size)); have HC6 := Lib.hid hC6; clear hC6 hB6) | (go_at_call 13; refine (HQ2.out _ _ _ (HB2.out.trans (HB6.out.mono HB2.out.size)) HC6.out).mono ?_; rintro e w4 ⟨rfl, hB7⟩; have HB7 := Lib.hid (HB6.out.trans (hB7.mono HB6.out.size)); clear hB7))
     go_roundw
     case rel => exact ⟨j + 1, b, Ab, cb, by omega, by omega, by go_num, rfl, hbc, HBL, HCB, rfl, HS3, HB7.out⟩
     case measure => simp [intOf]; omega
   ·
    obtain rfl : j = OS.length := by omega
    have djl : decide ((OS.length : Int) < (OS.length : Int)) = false := decide_eq_false (by omega)
    have HF : Hid (boN g rm wk = b) := Lib.hid (HBO.out b (E b) (by have := HSJ.out; rwa [List.take_length] at this))
    have hCb := Kd.C_below HCB.out hB
    have HCP := Lib.hid (spec_copyInts.calls Ab cb (ints b) (ints b) _ (by rw [ints_length]; exact hCb) (by rw [ints_length]; exact hbc) (copyInts_some _ (by rw [ints_length]; have := HBL.out; omega)))
    rw [ints_length] at HCP
    have HB := Lib.hid (HB2.out.trans (hB.mono HB2.out.size))
    clear hB hCb
    go_wp2_with (go_at_call 38; refine HCP.out.mono ?_; rintro e w5 ⟨v5, rfl, hR5, hB5⟩; have H5 := Lib.hid (And.intro hR5 hB5); clear hR5 hB5)
    go_ret
    have hz := HB.out.size
    exact ⟨_, rfl, by rw [HF.out]; exact Kd.R_lower H5.out.1 hz, HB.out.trans (H5.out.2.mono hz)⟩
set_option maxRecDepth 1000000 in
set_option maxHeartbeats 8000000 in
theorem sBestTime_calls (A : Option Addr) (c : Nat) (g : List Tk) (hgc : g.length ≤ c) (A1 : Option Addr) (c1 : Nat) (rm : List Int) (wk : Int) (w : World) (hr : kTk.C w A g.length g) (hr1 : (Kd.int .i64).C w A1 rm.length rm) :
  Calls Tryz.prog 6 #[.slice A g.length c, .slice A1 rm.length c1, .int .i64 wk] w fun e w' => e = .returned (.int .i64 (btN g rm wk)) ∧ Below w.heap.size w w' := by
 cases h1 : seaB g rm wk with
 | false =>
  have HF : Hid (btN g rm wk = -1) := Lib.hid (by unfold btN; rw [h1]; rfl)
  have HV := Lib.hid (validSearch_is false A c g A1 c1 rm wk (Lib.hid h1) w hr hr1)
  clear h1 hr hr1
  go_enter Tryz.func6, Tryz.ntmps6
  go_wp2_with (go_at_call 12; refine HV.out.mono ?_; rintro e w1 ⟨rfl, hB1⟩; have HB1 := Lib.hid hB1; clear hB1)
  go_ret
  exact ⟨by rw [HF.out]; rfl, HB1.out⟩
 | true =>
  have HV := Lib.hid (validSearch_is true A c g A1 c1 rm wk (Lib.hid h1) w hr hr1)
  obtain ⟨b1, b2, _⟩ := best_is h1
  have HBO := Lib.hid (fun (W : World) (hB : Below w.heap.size w W) => sBestOrder_calls A c g hgc A1 c1 rm wk W (Kd.C_below hr hB) (Kd.C_below hr1 hB))
  obtain ⟨q1, q2⟩ := ordAt_is (A := A) (c := c) (A1 := A1) (c1 := c1) h1 hr hr1 b1
  rw [← b2] at q2
  have HQ1 := Lib.hid q1
  have HQ2 := Lib.hid q2
  clear h1 hr hr1 b1 b2 q1 q2
  generalize btN g rm wk = x at HQ2 ⊢
  generalize boN g rm wk = L at HBO HQ1 HQ2
  go_enter Tryz.func6, Tryz.ntmps6
  go_wp2_with (first | (go_at_call 12; refine HV.out.mono ?_; rintro e w1 ⟨rfl, hB1⟩; have HB1 := Lib.hid hB1; clear hB1) | (go_at_call 15; refine (HBO.out _ HB1.out).mono ?_; rintro e w2 ⟨v2, rfl, hR, hB⟩; obtain ⟨A2, c2, rfl, hc2, hC⟩ := Kd.R_reads hR; rw [ints_length] at hC hc2 ⊢; have HB2 := Lib.hid (HB1.out.trans (hB.mono HB1.out.size)); have HC2 := Lib.hid hC; clear hR hB hC) | (go_at_call 14; refine (HQ1.out _ _ _ HB2.out HC2.out).mono ?_; rintro e w3 ⟨A6, c6, rfl, hC6, hB6⟩; have HB6 := Lib.hid (HB2.out.trans (hB6.mono HB2.out.size)); have HC6 := Lib.hid hC6; clear hC6 hB6) | (go_at_call 13; refine (HQ2.out _ _ _ HB6.out HC6.out).mono ?_; rintro e w4 ⟨rfl, hB7⟩; have HB7 := Lib.hid (HB6.out.trans (hB7.mono HB6.out.size)); clear hB7))
  go_ret
  exact ⟨rfl, HB7.out⟩
end Go.Proofs.YtkljcdghbefceaaGreatDoor
