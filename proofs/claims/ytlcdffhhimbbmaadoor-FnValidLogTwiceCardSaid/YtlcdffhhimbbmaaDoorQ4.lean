/- Draws. Cut down, by a program of mine, from what print.sh printed for this seat. -/
import Derived.Test.YtlcdffhhimbbmaaDoorQ3
namespace Go.Proofs.YtlcdffhhimbbmaaDoor.PFnValidLog
open Go.RowKit Go.Proofs.YtlcdffhhimbbmaaDoorW.PrintWords Go.Proofs.YtlcdffhhimbbmaaDoorW.PrintLast Go.Proofs.YtlcdffhhimbbmaaDoorW.PrintMore
attribute [local go_sem] max2_int min2_int max_two min_two max_three min_three max_four min_four
set_option linter.unusedVariables false
set_option linter.unusedSimpArgs false
/-! spec_admit -/
mutual
def spec_admit.l0 : Nat → List (S41) → List Int → List Int → Int → List Int → List Int → Int → Option (List Int)
 | 0, _, _, _, _, _, _, _ => none
 | k + 1, x0, x1, x3, x4, x11, x12, x13 => if x13 < (x3.length : Int) then (spec_admit.j1 k x0 x1 x3 x4 x11 x12 x13 (decide ((x12.length : Int) < x4))) else (spec_admit.j1 k x0 x1 x3 x4 x11 x12 x13 false)
def spec_admit.j1 : Nat → List (S41) → List Int → List Int → Int → List Int → List Int → Int → Bool → Option (List Int)
 | 0, _, _, _, _, _, _, _, _ => none
 | k + 1, x0, x1, x3, x4, x11, x12, x13, x27 => if x27 = true then (if 0 ≤ x13 then (if x13 < (x3.length : Int) then (if 0 ≤ (rd x3 x13) then (if (rd x3 x13) < (x0.length : Int) then ((spec_used.f k x0 x12 ((rd_T41 x0 (rd x3 x13)).f2)).bind fun t328 => (if 0 ≤ ((rd_T41 x0 (rd x3 x13)).f2) then (if ((rd_T41 x0 (rd x3 x13)).f2) < (x1.length : Int) then (if (wrap64 (t328 + ((rd_T41 x0 (rd x3 x13)).f3))) ≤ (rd x1 ((rd_T41 x0 (rd x3 x13)).f2)) then (if x11.length < 17592186044416 then (if x12.length < 17592186044416 then (spec_admit.l0 k x0 x1 x3 x4 (x11 ++ [rd x3 x13]) (x12 ++ [rd x3 x13]) (wrap64 (x13 + 1))) else (none)) else (none)) else (spec_admit.l0 k x0 x1 x3 x4 x11 x12 (wrap64 (x13 + 1)))) else (none)) else (none))) else (none)) else (none)) else (none)) else (none)) else (some x11)
end
def spec_admit.f (k : Nat) (l0 : List (S41)) (l1 : List Int) (l2 : List Int) (l3 : List Int) (a4 : Int) : Option (List Int) := (spec_copyInts.f l2).bind fun t322 => (spec_admit.l0 k l0 l1 l3 a4 (([] : List Int)) t322 0)
set_option maxHeartbeats 8000000 in
set_option maxRecDepth 100000 in
theorem spec_admit.calls (k : Nat) (A0 : Option Addr) (c0 : Nat) (l0 : List (S41)) (A1 : Option Addr) (c1 : Nat) (l1 : List Int) (A2 : Option Addr) (c2 : Nat) (l2 : List Int) (A3 : Option Addr) (c3 : Nat) (l3 : List Int) (a4 : Int) (r : List Int) (w : World) (hr0 : Kd.C k41 w A0 l0.length l0) (hc0 : l0.length ≤ c0) (hr1 : Kd.C (Kd.int .i64) w A1 l1.length l1) (hc1 : l1.length ≤ c1) (hr2 : Kd.C (Kd.int .i64) w A2 l2.length l2) (hc2 : l2.length ≤ c2) (hr3 : Kd.C (Kd.int .i64) w A3 l3.length l3) (hc3 : l3.length ≤ c3) (h : spec_admit.f k l0 l1 l2 l3 a4 = some r) :
  Calls Tryd.prog 94 #[.slice A0 l0.length c0, .slice A1 l1.length c1, .slice A2 l2.length c2, .slice A3 l3.length c3, .int .i64 a4] w fun e w' => ∃ v0_ : Value, e = .returned (v0_) ∧ Kd.R (Kd.int .i64) 3 w' w.heap.size (fun _ => True) v0_ r ∧ Below w.heap.size w w' := by
 have hu41 := Tryd.underlying41
 have HR0 := mk0 hr0
 have HC0 := mk0 hc0
 clear hr0 hc0
 have HR1 := mk0 hr1
 have HC1 := mk0 hc1
 clear hr1 hc1
 have HR2 := mk0 hr2
 have HC2 := mk0 hc2
 clear hr2 hc2
 have HR3 := mk0 hr3
 have HC3 := mk0 hc3
 clear hr3 hc3
 have HB := mk0 (Below.refl w.heap.size w)
 have H : ((spec_copyInts.f l2).bind fun t322 => (spec_admit.l0 k l0 l1 l3 a4 (([] : List Int)) t322 0)) = some r := h
 clear h
 obtain ⟨y319, hy319⟩ : ∃ y_ : List Int, y_ = (([] : List Int)) := ⟨_, rfl⟩
 replace H : ((spec_copyInts.f l2).bind fun t322 => (spec_admit.l0 k l0 l1 l3 a4 y319 t322 0)) = some r := by first | (rw [hy319]; with_reducible exact H) | (rw [hy319]; exact (Option.bind_some _ _).symm.trans H) | (rw [hy319]; exact H) | exact H
 have Ny319 := mk0 hy319
 clear hy319
 replace H := bE_ H
 obtain ⟨t322, A60, H⟩ := H
 have A6 := mk0 A60
 clear A60
 have H' := mk0 H
 clear H
 go_enter Tryd.func94, Tryd.ntmps94
 go_wp2_with (first | ((with_reducible refine gate_dst (N := 15) rfl ?_); (try (refine gate_guard (by rfl) ?_; dsimp only)); refine Kd.R_lit (Kd.int .i64) _ 3 ?hg (N := 15) ?hd (xs := ([] : List Int)) (inner := []) (ok := fun _ => True) (okp := fun _ => True) ?hr ?hp (fun _ hk => hk) trivial (Below.refl _ _) (Nat.le_refl _) (by simp) ?_; (case hd => rfl); (case hg => rfl); (case hr => first | (go_simp; done) | (go_simp; rfl)); (case hp => exact (Reps.none _ _)); intro v320 w7 ho8 hb hg_ hnew_; clear hg_ hnew_; (first | rw [← Ny319.out] at ho8 | (simp only [Int.reduceToNat] at ho8; rw [← Ny319.out] at ho8)); have HO321 := mk0 (Kd.R_lower ho8 (below_size (by with_reducible repeat (first | exact HB.out | apply ba_ | apply bn_ | apply bd_)))); replace HB := mk0 (below_step (by with_reducible repeat (first | exact HB.out | apply ba_ | apply bn_ | apply bd_)) hb); clear hb ho8) | (go_at_call 76; (with_reducible refine (spec_copyInts.calls _ _ l2 t322 _ ?side1 ?side2 A6.out).mono ?_); (case side1 => repeat (first | exact (Kd.C_below HR2.out HB.out) | (with_reducible first | refine Ca_ ?_ _ | refine Cn_ ?_ _ | refine Cd_ ?_))); (case side2 => exact HC2.out); rintro e w9 ⟨v323, rfl, ho0, hb⟩; have HO324 := mk0 (Kd.R_lower (Kd.R_new' ho0 (Kd.R_lt (by (with_reducible repeat (first | apply Ra_ | apply Rn_ | apply Rd_)); exact HO321.out))) (below_size (by with_reducible repeat (first | exact HB.out | apply ba_ | apply bn_ | apply bd_)))); replace HO321 := mk0 (Kd.R_elder' (by (with_reducible repeat (first | apply Ra_ | apply Rn_ | apply Rd_)); exact HO321.out) (Kd.R_base ho0) hb); replace HB := mk0 (below_step (by with_reducible repeat (first | exact HB.out | apply ba_ | apply bn_ | apply bd_)) hb); clear hb ho0))
 repeat (go_quiet (first | ((with_reducible refine gate_dst (N := 15) rfl ?_); (try (refine gate_guard (by rfl) ?_; dsimp only)); refine Kd.R_lit (Kd.int .i64) _ 3 ?hg (N := 15) ?hd (xs := ([] : List Int)) (inner := []) (ok := fun _ => True) (okp := fun _ => True) ?hr ?hp (fun _ hk => hk) trivial (Below.refl _ _) (Nat.le_refl _) (by simp) ?_; (case hd => rfl); (case hg => rfl); (case hr => first | (go_simp; done) | (go_simp; rfl)); (case hp => exact (Reps.none _ _)); intro v320 w7 ho8 hb hg_ hnew_; clear hg_ hnew_; (first | rw [← Ny319.out] at ho8 | (simp only [Int.reduceToNat] at ho8; rw [← Ny319.out] at ho8)); have HO321 := mk0 (Kd.R_lower ho8 (below_size (by with_reducible repeat (first | exact HB.out | apply ba_ | apply bn_ | apply bd_)))); replace HB := mk0 (below_step (by with_reducible repeat (first | exact HB.out | apply ba_ | apply bn_ | apply bd_)) hb); clear hb ho8) | (go_at_call 76; (with_reducible refine (spec_copyInts.calls _ _ l2 t322 _ ?side1 ?side2 A6.out).mono ?_); (case side1 => repeat (first | exact (Kd.C_below HR2.out HB.out) | (with_reducible first | refine Ca_ ?_ _ | refine Cn_ ?_ _ | refine Cd_ ?_))); (case side2 => exact HC2.out); rintro e w9 ⟨v323, rfl, ho0, hb⟩; have HO324 := mk0 (Kd.R_lower (Kd.R_new' ho0 (Kd.R_lt (by (with_reducible repeat (first | apply Ra_ | apply Rn_ | apply Rd_)); exact HO321.out))) (below_size (by with_reducible repeat (first | exact HB.out | apply ba_ | apply bn_ | apply bd_)))); replace HO321 := mk0 (Kd.R_elder' (by (with_reducible repeat (first | apply Ra_ | apply Rn_ | apply Rd_)); exact HO321.out) (Kd.R_base ho0) hb); replace HB := mk0 (below_step (by with_reducible repeat (first | exact HB.out | apply ba_ | apply bn_ | apply bd_)) hb); clear hb ho0)); try go_wp2_with (first | ((with_reducible refine gate_dst (N := 15) rfl ?_); (try (refine gate_guard (by rfl) ?_; dsimp only)); refine Kd.R_lit (Kd.int .i64) _ 3 ?hg (N := 15) ?hd (xs := ([] : List Int)) (inner := []) (ok := fun _ => True) (okp := fun _ => True) ?hr ?hp (fun _ hk => hk) trivial (Below.refl _ _) (Nat.le_refl _) (by simp) ?_; (case hd => rfl); (case hg => rfl); (case hr => first | (go_simp; done) | (go_simp; rfl)); (case hp => exact (Reps.none _ _)); intro v320 w7 ho8 hb hg_ hnew_; clear hg_ hnew_; (first | rw [← Ny319.out] at ho8 | (simp only [Int.reduceToNat] at ho8; rw [← Ny319.out] at ho8)); have HO321 := mk0 (Kd.R_lower ho8 (below_size (by with_reducible repeat (first | exact HB.out | apply ba_ | apply bn_ | apply bd_)))); replace HB := mk0 (below_step (by with_reducible repeat (first | exact HB.out | apply ba_ | apply bn_ | apply bd_)) hb); clear hb ho8) | (go_at_call 76; (with_reducible refine (spec_copyInts.calls _ _ l2 t322 _ ?side1 ?side2 A6.out).mono ?_); (case side1 => repeat (first | exact (Kd.C_below HR2.out HB.out) | (with_reducible first | refine Ca_ ?_ _ | refine Cn_ ?_ _ | refine Cd_ ?_))); (case side2 => exact HC2.out); rintro e w9 ⟨v323, rfl, ho0, hb⟩; have HO324 := mk0 (Kd.R_lower (Kd.R_new' ho0 (Kd.R_lt (by (with_reducible repeat (first | apply Ra_ | apply Rn_ | apply Rd_)); exact HO321.out))) (below_size (by with_reducible repeat (first | exact HB.out | apply ba_ | apply bn_ | apply bd_)))); replace HO321 := mk0 (Kd.R_elder' (by (with_reducible repeat (first | apply Ra_ | apply Rn_ | apply Rd_)); exact HO321.out) (Kd.R_base ho0) hb); replace HB := mk0 (below_step (by with_reducible repeat (first | exact HB.out | apply ba_ | apply bn_ | apply bd_)) hb); clear hb ho0)))
 go_loopg [11, 12, 13] k (fun kq v11 v12 v13 w' => ∃ (x11_1 : List Int) (x12_1 : List Int) (x13_1 : Int), v13 = .int .i64 x13_1 ∧ Aside0 (spec_admit.l0 kq l0 l1 l3 a4 x11_1 x12_1 x13_1 = some r) ∧ Aside0 (kq ≤ k) ∧ Aside0 (Kd.R (Kd.int .i64) 3 w' w.heap.size (fun k_ => some k_ ≠ (v12 : Value).ownBlock) v11 x11_1) ∧ Aside0 (Kd.R (Kd.int .i64) 3 w' w.heap.size (fun k_ => some k_ ≠ (v11 : Value).ownBlock) v12 x12_1) ∧ Aside0 (Below w.heap.size w w'))
 case atStart => exact ⟨(y319), (t322), (0), (by first | rfl | (simp; done) | (simp [*]; done)), H', ⟨Nat.le_refl _⟩, ⟨by (with_reducible repeat (first | apply Ra_ | apply Rn_ | apply Rd_)); exact Kd.R_mono HO321.out (fun _ hk => hk.2)⟩, ⟨by (with_reducible repeat (first | apply Ra_ | apply Rn_ | apply Rd_)); exact Kd.R_mono HO324.out (fun _ hk => hk.2)⟩, ⟨by with_reducible repeat (first | exact HB.out | apply ba_ | apply bn_ | apply bd_)⟩⟩
 case round =>
  clear H'
  try clear c1
  try clear c2
  try clear p2
  try clear c3
  try clear c9
  obtain ⟨x11_1, x12_1, x13_1, rfl, HA, HK1, HO_11, HO_12, HB⟩ := hrel
  cases gk with
  | zero => exact absurd HA.out (by simp [spec_admit.l0])
  | succ k1 =>
   have H := HA.out
   clear HA
   simp only [spec_admit.l0] at H
   have HC10 := mk0 H
   clear H
   go_upto_region 4 with (fail)
   repeat (go_quiet (fail); go_upto_region 4 with (fail))
   go_cut [27] (fun v27 wc => ∃ (kq : Nat) (x27_9 : Bool), v27 = .bool x27_9 ∧ Aside0 (spec_admit.j1 kq l0 l1 l3 a4 x11_1 x12_1 x13_1 x27_9 = some r) ∧ Aside0 (kq ≤ k1) ∧ Aside0 (Kd.R (Kd.int .i64) 3 wc w.heap.size (fun k_ => some k_ ≠ (u12 : Value).ownBlock) u11 x11_1) ∧ Aside0 (Kd.R (Kd.int .i64) 3 wc w.heap.size (fun k_ => some k_ ≠ (u11 : Value).ownBlock) u12 x12_1) ∧ Aside0 (Below w.heap.size w wc))
   case first =>
    have H := HC10.out
    clear HC10
    by_cases c11 : x13_1 < (l3.length : Int)
    ·
     rw [if_pos c11] at H
     have c11b0 : decide (x13_1 < (l3.length : Int)) = true := decide_eq_true c11
     clear c11
     (first | rw [c11b0] | (simp only [i64_w, i32_w]; rw [c11b0]) | skip)
     have H' := mk0 H
     clear H
     obtain ⟨Ao12, co12, eo12⟩ := Kd.R_slice HO_12.out
     subst eo12
     go_wp2
     repeat (go_quiet (fail); try go_wp2)
     go_meet
     case rel => exact ⟨_, (decide ((x12_1.length : Int) < a4)), (by first | rfl | (simp; done) | (simp [*]; done)), H', ⟨by have := HK1.out; first | omega | exact Nat.le_refl _⟩, ⟨by (with_reducible repeat (first | apply Ra_ | apply Rn_ | apply Rd_)); exact HO_11.out⟩, ⟨by (with_reducible repeat (first | apply Ra_ | apply Rn_ | apply Rd_)); exact HO_12.out⟩, ⟨by with_reducible repeat (first | exact HB.out | apply ba_ | apply bn_ | apply bd_)⟩⟩
    ·
     rw [if_neg c11] at H
     have c11b0 : decide (x13_1 < (l3.length : Int)) = false := decide_eq_false c11
     clear c11
     (first | rw [c11b0] | (simp only [i64_w, i32_w]; rw [c11b0]) | skip)
     have H' := mk0 H
     clear H
     go_wp2
     repeat (go_quiet (fail); try go_wp2)
     go_meet
     case rel => exact ⟨_, (false), (by first | rfl | (simp; done) | (simp [*]; done)), H', ⟨by have := HK1.out; first | omega | exact Nat.le_refl _⟩, ⟨by (with_reducible repeat (first | apply Ra_ | apply Rn_ | apply Rd_)); exact HO_11.out⟩, ⟨by (with_reducible repeat (first | apply Ra_ | apply Rn_ | apply Rd_)); exact HO_12.out⟩, ⟨by with_reducible repeat (first | exact HB.out | apply ba_ | apply bn_ | apply bd_)⟩⟩
   case rest =>
    clear HC10
    try clear c1
    try clear c2
    try clear p2
    try clear c3
    try clear c9
    try clear c11
    try clear c11b0
    try clear p2
    obtain ⟨kq, x27_9, rfl, HA, HJ9, HO_11, HO_12, HB⟩ := hcut
    cases kq with
    | zero => exact absurd HA.out (by simp [spec_admit.j1])
    | succ kj9 =>
     have H := HA.out
     clear HA
     simp only [spec_admit.j1] at H
     by_cases c13 : x27_9 = true
     ·
      subst c13
      rw [if_pos rfl] at H
      by_cases c14 : 0 ≤ x13_1
      ·
       rw [if_pos c14] at H
       have c14b0 : decide (0 ≤ x13_1) = true := decide_eq_true c14
       clear c14
       by_cases c15 : x13_1 < (l3.length : Int)
       ·
        rw [if_pos c15] at H
        have c15b0 : decide (x13_1 < (l3.length : Int)) = true := decide_eq_true c15
        clear c15
        by_cases c16 : 0 ≤ (rd l3 x13_1)
        ·
         rw [if_pos c16] at H
         have c16b0 : decide (0 ≤ (rd l3 x13_1)) = true := decide_eq_true c16
         clear c16
         by_cases c17 : (rd l3 x13_1) < (l0.length : Int)
         ·
          rw [if_pos c17] at H
          have c17b0 : decide ((rd l3 x13_1) < (l0.length : Int)) = true := decide_eq_true c17
          clear c17
          replace H := bE_ H
          obtain ⟨t328, A180, H⟩ := H
          have A18 := mk0 A180
          clear A180
          by_cases c19 : 0 ≤ ((rd_T41 l0 (rd l3 x13_1)).f2)
          ·
           rw [if_pos c19] at H
           have c19b0 : decide (0 ≤ ((rd_T41 l0 (rd l3 x13_1)).f2)) = true := decide_eq_true c19
           clear c19
           by_cases c20 : ((rd_T41 l0 (rd l3 x13_1)).f2) < (l1.length : Int)
           ·
            rw [if_pos c20] at H
            have c20b0 : decide (((rd_T41 l0 (rd l3 x13_1)).f2) < (l1.length : Int)) = true := decide_eq_true c20
            clear c20
            by_cases c21 : (wrap64 (t328 + ((rd_T41 l0 (rd l3 x13_1)).f3))) ≤ (rd l1 ((rd_T41 l0 (rd l3 x13_1)).f2))
            ·
             rw [if_pos c21] at H
             have c21b0 : decide ((wrap64 (t328 + ((rd_T41 l0 (rd l3 x13_1)).f3))) ≤ (rd l1 ((rd_T41 l0 (rd l3 x13_1)).f2))) = true := decide_eq_true c21
             have c21b9 : decide (IntKind.i64.wrap (t328 + ((rd_T41 l0 (rd l3 x13_1)).f3)) ≤ (rd l1 ((rd_T41 l0 (rd l3 x13_1)).f2))) = true := by have q := c21b0; unfold wrap64 at q; rw [IntKind.wrap_i64]; exact q
             have c21b8 : (IntKind.i64.wrap (t328 + ((rd_T41 l0 (rd l3 x13_1)).f3)) ≤ (rd l1 ((rd_T41 l0 (rd l3 x13_1)).f2))) = True := eq_true (of_decide_eq_true c21b9)
             clear c21
             by_cases c22 : x11_1.length < 17592186044416
             ·
              rw [if_pos c22] at H
              have LMc22 := mk0 c22
              clear c22
              obtain ⟨y331, hy331⟩ : ∃ y_ : List Int, y_ = (x11_1 ++ [rd l3 x13_1]) := ⟨_, rfl⟩
              replace H : (if x12_1.length < 17592186044416 then (spec_admit.l0 kj9 l0 l1 l3 a4 y331 (x12_1 ++ [rd l3 x13_1]) (wrap64 (x13_1 + 1))) else (none)) = some r := by first | (rw [hy331]; with_reducible exact H) | (rw [hy331]; exact (Option.bind_some _ _).symm.trans H) | (rw [hy331]; exact H) | exact H
              have Ny331 := mk0 hy331
              clear hy331
              by_cases c23 : x12_1.length < 17592186044416
              ·
               rw [if_pos c23] at H
               have LMc23 := mk0 c23
               clear c23
               obtain ⟨y335, hy335⟩ : ∃ y_ : List Int, y_ = (x12_1 ++ [rd l3 x13_1]) := ⟨_, rfl⟩
               replace H : (spec_admit.l0 kj9 l0 l1 l3 a4 y331 y335 (wrap64 (x13_1 + 1))) = some r := by first | (rw [hy335]; with_reducible exact H) | (rw [hy335]; exact (Option.bind_some _ _).symm.trans H) | (rw [hy335]; exact H) | exact H
               have Ny335 := mk0 hy335
               clear hy335
               have H' := mk0 H
               clear H
               have p325 : 0 ≤ (x13_1 : Int) := od_ (by with_reducible assumption)
               have q325 : x13_1 < (l3.length : Int) := od_ (by with_reducible assumption)
               obtain ⟨ad325, e325, hx325_0⟩ := Kd.at_int HR3.out x13_1 p325 q325
               cases e325
               replace hx325_0 := (HB.out.cell (World.block_lt_of_cell? w _ hx325_0)).trans hx325_0
               replace p325 := eq_true p325
               replace q325 := eq_true q325
               have p326 : 0 ≤ ((rd l3 x13_1) : Int) := od_ (by with_reducible assumption)
               have q326 : (rd l3 x13_1) < (l0.length : Int) := od_ (by with_reducible assumption)
               obtain ⟨ad326, A326_1, c326_1, e326, hx326_0, hx326_1, hx326_2, hx326_3, hl326_1, hi326_1⟩ := at_T41 HR0.out (rd l3 x13_1) p326 q326
               cases e326
               replace hx326_0 := (HB.out.cell (World.block_lt_of_cell? w _ hx326_0)).trans hx326_0
               replace hx326_1 := (HB.out.cell (World.block_lt_of_cell? w _ hx326_1)).trans hx326_1
               replace hx326_2 := (HB.out.cell (World.block_lt_of_cell? w _ hx326_2)).trans hx326_2
               replace hx326_3 := (HB.out.cell (World.block_lt_of_cell? w _ hx326_3)).trans hx326_3
               have HR326_1 := mk0 hi326_1
               have HC326_1 := mk0 hl326_1
               clear hi326_1 hl326_1
               replace p326 := eq_true p326
               replace q326 := eq_true q326
               go_wp2_with (first | ((with_reducible refine gate_dst (N := 14) rfl ?_); (try (refine gate_guard (by rfl) ?_; dsimp only)); refine box_event ?hg (N := 14) ?hd (cs := #[.int .i64 0, .slice none 0 0, .int .i64 0, .int .i64 0]) (t := 41) ?hr ?_; (case hd => rfl); (case hg => rfl); (case hr => first | (go_simp; done) | (go_simp; rfl)); intro gb327 hg w24 hbox hb; replace HO_11 := mk0 (Kd.R_below (by (with_reducible repeat (first | apply Ra_ | apply Rn_ | apply Rd_)); exact HO_11.out) hb); replace HO_12 := mk0 (Kd.R_below (by (with_reducible repeat (first | apply Ra_ | apply Rn_ | apply Rd_)); exact HO_12.out) hb); have BK327 := mk0 (hbox); have GW327 := mk0 ((by rw [hg]; exact (below_size (by with_reducible repeat (first | exact HB.out | apply ba_ | apply bn_ | apply bd_))) : w.heap.size ≤ gb327)); have GE327 := mk0 ((by rw [hg]; exact (below_size (by with_reducible repeat (first | exact HB.out | apply ba_ | apply bn_ | apply bd_))) : w.heap.size ≤ gb327)); replace HB := mk0 (below_step (by with_reducible repeat (first | exact HB.out | apply ba_ | apply bn_ | apply bd_)) hb); clear hb hbox hg; have hcz25_0 : w24.cell? ⟨gb327, 0, none⟩ = some (.int .i64 0) := (blk_cell BK327.out 0).trans rfl; have hcz25_1 : w24.cell? ⟨gb327, 1, none⟩ = some (.slice none 0 0) := (blk_cell BK327.out 1).trans rfl; have hcz25_2 : w24.cell? ⟨gb327, 2, none⟩ = some (.int .i64 0) := (blk_cell BK327.out 2).trans rfl; have hcz25_3 : w24.cell? ⟨gb327, 3, none⟩ = some (.int .i64 0) := (blk_cell BK327.out 3).trans rfl; have hfz25_0 := blk_frozen BK327.out 0; have hfz25_1 := blk_frozen BK327.out 1; have hfz25_2 := blk_frozen BK327.out 2; have hfz25_3 := blk_frozen BK327.out 3; obtain ⟨Ao26, co26, eo26⟩ := Kd.R_slice HO_12.out; subst eo26) | (go_at_call 95; (with_reducible refine (spec_used.calls kj9 _ _ l0 _ _ x12_1 ((rd_T41 l0 (rd l3 x13_1)).f2) t328 _ ?side1 ?side2 ?side3 ?side4 A18.out).mono ?_); (case side1 => exact Kd.C_below HR0.out (by with_reducible repeat (first | exact HB.out | apply ba_ | apply bn_ | apply bd_ | refine below_set ?_ GE327.out))); (case side2 => exact HC0.out); (case side3 => refine (Kd.R_reads' (e := 3) (base := w.heap.size) (ok := fun k_ => some k_ ≠ (u11 : Value).ownBlock) (n := x12_1.length) (c := co26) ?_).2.2; exact (by (with_reducible repeat (first | apply Ra_ | apply Rn_ | apply Rd_)); exact (Kd.R_mono (Kd.R_far (p := ⟨gb327, 3, none⟩) (Kd.R_far (p := ⟨gb327, 2, none⟩) (Kd.R_far (p := ⟨gb327, 1, none⟩) (Kd.R_far (p := ⟨gb327, 0, none⟩) (Kd.R_types HO_12.out BK327.out (by decide)) (fun _ hk => hk.2) (.int .i64 ((rd_T41 l0 (rd l3 x13_1)).f0))) (fun _ hk => hk.2) (.slice A326_1 ((rd_T41 l0 (rd l3 x13_1)).f1).length c326_1)) (fun _ hk => hk.2) (.int .i64 ((rd_T41 l0 (rd l3 x13_1)).f2))) (fun _ hk => hk.2) (.int .i64 ((rd_T41 l0 (rd l3 x13_1)).f3))) (fun _ h_ => h_.1)))); (case side4 => exact (Kd.R_reads' HO_12.out).2.1); rintro e w' ⟨rfl, ⟨nd, rfl⟩⟩; (try first | exact ⟨rfl, _, World.drewN_drewN _ _ _⟩ | exact ⟨rfl, _, Eq.trans (World.drewN_drewN _ _ _) (congrArg (World.drewN _) (Nat.add_assoc _ _ _))⟩); have p329 : 0 ≤ (((rd_T41 l0 (rd l3 x13_1)).f2) : Int) := od_ (by with_reducible assumption); have q329 : ((rd_T41 l0 (rd l3 x13_1)).f2) < (l1.length : Int) := od_ (by with_reducible assumption); obtain ⟨ad329, e329, hx329_0⟩ := Kd.at_int HR1.out ((rd_T41 l0 (rd l3 x13_1)).f2) p329 q329; cases e329; have hn329_0 : ad329.block ≠ gb327 := Nat.ne_of_lt (Nat.lt_of_lt_of_le (by have := World.block_lt_of_cell? _ _ hx329_0; first | rwa [add_block] at this | exact this) GW327.out); have hn329_1 : ad329.block ≠ gb327 := Nat.ne_of_lt (Nat.lt_of_lt_of_le (by have := World.block_lt_of_cell? _ _ hx329_0; first | rwa [add_block] at this | exact this) GW327.out); have hn329_2 : ad329.block ≠ gb327 := Nat.ne_of_lt (Nat.lt_of_lt_of_le (by have := World.block_lt_of_cell? _ _ hx329_0; first | rwa [add_block] at this | exact this) GW327.out); have hn329_3 : ad329.block ≠ gb327 := Nat.ne_of_lt (Nat.lt_of_lt_of_le (by have := World.block_lt_of_cell? _ _ hx329_0; first | rwa [add_block] at this | exact this) GW327.out); replace hx329_0 := (HB.out.cell (World.block_lt_of_cell? w _ hx329_0)).trans hx329_0; replace hx329_0 := (cell_far (p := ⟨gb327, 0, none⟩) (by first | (rw [add_block]; exact hn329_0) | (show (Addr.add _ _).block ≠ _; rw [add_block]; exact hn329_0) | exact hn329_0) (.int .i64 ((rd_T41 l0 (rd l3 x13_1)).f0))).trans hx329_0; replace hx329_0 := (cell_far (p := ⟨gb327, 1, none⟩) (by first | (rw [add_block]; exact hn329_1) | (show (Addr.add _ _).block ≠ _; rw [add_block]; exact hn329_1) | exact hn329_1) (.slice A326_1 ((rd_T41 l0 (rd l3 x13_1)).f1).length c326_1)).trans hx329_0; replace hx329_0 := (cell_far (p := ⟨gb327, 2, none⟩) (by first | (rw [add_block]; exact hn329_2) | (show (Addr.add _ _).block ≠ _; rw [add_block]; exact hn329_2) | exact hn329_2) (.int .i64 ((rd_T41 l0 (rd l3 x13_1)).f2))).trans hx329_0; replace hx329_0 := (cell_far (p := ⟨gb327, 3, none⟩) (by first | (rw [add_block]; exact hn329_3) | (show (Addr.add _ _).block ≠ _; rw [add_block]; exact hn329_3) | exact hn329_3) (.int .i64 ((rd_T41 l0 (rd l3 x13_1)).f3))).trans hx329_0; (try have hy329_0 := fun (n_ : Nat) => (show ((((((w24.drewN n_).setCell ⟨gb327, 0, none⟩ (.int .i64 ((rd_T41 l0 (rd l3 x13_1)).f0))).setCell ⟨gb327, 1, none⟩ (.slice A326_1 ((rd_T41 l0 (rd l3 x13_1)).f1).length c326_1)).setCell ⟨gb327, 2, none⟩ (.int .i64 ((rd_T41 l0 (rd l3 x13_1)).f2))).setCell ⟨gb327, 3, none⟩ (.int .i64 ((rd_T41 l0 (rd l3 x13_1)).f3)))).cell? _ = some _ from hx329_0)); clear hn329_0; clear hn329_1; clear hn329_2; clear hn329_3; replace p329 := eq_true p329; replace q329 := eq_true q329; have p330 : 0 ≤ (x13_1 : Int) := od_ (by with_reducible assumption); have q330 : x13_1 < (l3.length : Int) := od_ (by with_reducible assumption); obtain ⟨ad330, e330, hx330_0⟩ := Kd.at_int HR3.out x13_1 p330 q330; obtain rfl : ad325 = ad330 := (by injection e330); have hn330_0 : ad325.block ≠ gb327 := Nat.ne_of_lt (Nat.lt_of_lt_of_le (by have := World.block_lt_of_cell? _ _ hx330_0; first | rwa [add_block] at this | exact this) GW327.out); have hn330_1 : ad325.block ≠ gb327 := Nat.ne_of_lt (Nat.lt_of_lt_of_le (by have := World.block_lt_of_cell? _ _ hx330_0; first | rwa [add_block] at this | exact this) GW327.out); have hn330_2 : ad325.block ≠ gb327 := Nat.ne_of_lt (Nat.lt_of_lt_of_le (by have := World.block_lt_of_cell? _ _ hx330_0; first | rwa [add_block] at this | exact this) GW327.out); have hn330_3 : ad325.block ≠ gb327 := Nat.ne_of_lt (Nat.lt_of_lt_of_le (by have := World.block_lt_of_cell? _ _ hx330_0; first | rwa [add_block] at this | exact this) GW327.out); replace hx330_0 := (HB.out.cell (World.block_lt_of_cell? w _ hx330_0)).trans hx330_0; replace hx330_0 := (cell_far (p := ⟨gb327, 0, none⟩) (by first | (rw [add_block]; exact hn330_0) | (show (Addr.add _ _).block ≠ _; rw [add_block]; exact hn330_0) | exact hn330_0) (.int .i64 ((rd_T41 l0 (rd l3 x13_1)).f0))).trans hx330_0; replace hx330_0 := (cell_far (p := ⟨gb327, 1, none⟩) (by first | (rw [add_block]; exact hn330_1) | (show (Addr.add _ _).block ≠ _; rw [add_block]; exact hn330_1) | exact hn330_1) (.slice A326_1 ((rd_T41 l0 (rd l3 x13_1)).f1).length c326_1)).trans hx330_0; replace hx330_0 := (cell_far (p := ⟨gb327, 2, none⟩) (by first | (rw [add_block]; exact hn330_2) | (show (Addr.add _ _).block ≠ _; rw [add_block]; exact hn330_2) | exact hn330_2) (.int .i64 ((rd_T41 l0 (rd l3 x13_1)).f2))).trans hx330_0; replace hx330_0 := (cell_far (p := ⟨gb327, 3, none⟩) (by first | (rw [add_block]; exact hn330_3) | (show (Addr.add _ _).block ≠ _; rw [add_block]; exact hn330_3) | exact hn330_3) (.int .i64 ((rd_T41 l0 (rd l3 x13_1)).f3))).trans hx330_0; (try have hy330_0 := fun (n_ : Nat) => (show ((((((w24.drewN n_).setCell ⟨gb327, 0, none⟩ (.int .i64 ((rd_T41 l0 (rd l3 x13_1)).f0))).setCell ⟨gb327, 1, none⟩ (.slice A326_1 ((rd_T41 l0 (rd l3 x13_1)).f1).length c326_1)).setCell ⟨gb327, 2, none⟩ (.int .i64 ((rd_T41 l0 (rd l3 x13_1)).f2))).setCell ⟨gb327, 3, none⟩ (.int .i64 ((rd_T41 l0 (rd l3 x13_1)).f3)))).cell? _ = some _ from hx330_0)); clear hn330_0; clear hn330_1; clear hn330_2; clear hn330_3; replace p330 := eq_true p330; replace q330 := eq_true q330) | ((with_reducible refine gate_builtin (b := .append) (xs := #[.tmp 51, .tmp 56]) rfl ?_); (try (refine gate_guard (by rfl) ?_; dsimp only)); at_builtin; refine Kd.R_append (Kd.int .i64) (w0 := w) w.heap.size rfl (.tmp 51) (.tmp 56) 31 3 (.int .i64 0) 8 rfl Tryd.underlying31 info3 rfl (by decide) (by omega) u11 x11_1 (rd l3 x13_1) [.int .i64 (rd l3 x13_1)] (fun k_ => some k_ ≠ (.slice Ao26 x12_1.length co26 : Value).ownBlock) (fun _ => False) rfl (by first | (go_simp; done) | (go_simp; rfl)) ?aP (fun _ hk => hk.elim) ?aF ?aO ?aB ?aS ?aL ?_; (case aP => exact rfl); (case aB => exact (by with_reducible repeat (first | exact HB.out | apply ba_ | apply bn_ | apply bd_ | refine below_set ?_ GE327.out))); (case aF => exact (fun k_ hk => Kd.fresh' (Kd.R_lt (by (with_reducible repeat (first | apply Ra_ | apply Rn_ | apply Rd_)); exact (Kd.R_mono (Kd.R_far (p := ⟨gb327, 3, none⟩) (Kd.R_far (p := ⟨gb327, 2, none⟩) (Kd.R_far (p := ⟨gb327, 1, none⟩) (Kd.R_far (p := ⟨gb327, 0, none⟩) (Kd.R_types HO_12.out BK327.out (by decide)) (fun _ hk => hk.2) (.int .i64 ((rd_T41 l0 (rd l3 x13_1)).f0))) (fun _ hk => hk.2) (.slice A326_1 ((rd_T41 l0 (rd l3 x13_1)).f1).length c326_1)) (fun _ hk => hk.2) (.int .i64 ((rd_T41 l0 (rd l3 x13_1)).f2))) (fun _ hk => hk.2) (.int .i64 ((rd_T41 l0 (rd l3 x13_1)).f3))) (fun _ h_ => h_.1)))) k_ hk)); (case aO => exact (by (with_reducible repeat (first | apply Ra_ | apply Rn_ | apply Rd_)); exact Kd.R_mono (Kd.R_far (p := ⟨gb327, 3, none⟩) (Kd.R_far (p := ⟨gb327, 2, none⟩) (Kd.R_far (p := ⟨gb327, 1, none⟩) (Kd.R_far (p := ⟨gb327, 0, none⟩) (Kd.R_types HO_11.out BK327.out (by decide)) (fun _ hk => hk.2) (.int .i64 ((rd_T41 l0 (rd l3 x13_1)).f0))) (fun _ hk => hk.2) (.slice A326_1 ((rd_T41 l0 (rd l3 x13_1)).f1).length c326_1)) (fun _ hk => hk.2) (.int .i64 ((rd_T41 l0 (rd l3 x13_1)).f2))) (fun _ hk => hk.2) (.int .i64 ((rd_T41 l0 (rd l3 x13_1)).f3))) (fun _ hk => hk.1))); (case aS => exact (below_size (by with_reducible repeat (first | exact HB.out | apply ba_ | apply bn_ | apply bd_ | refine below_set ?_ GE327.out)))); (case aL => have := LMc22.out; omega); intro v332 w27 ho hb hg hat; rw [← Ny331.out] at ho; replace HO_12 := mk0 (Kd.R_after (ok := (fun _ => True)) (by (with_reducible repeat (first | apply Ra_ | apply Rn_ | apply Rd_)); exact Kd.R_mono (Kd.R_far (p := ⟨gb327, 3, none⟩) (Kd.R_far (p := ⟨gb327, 2, none⟩) (Kd.R_far (p := ⟨gb327, 1, none⟩) (Kd.R_far (p := ⟨gb327, 0, none⟩) (Kd.R_types HO_12.out BK327.out (by decide)) (fun _ hk => hk.2) (.int .i64 ((rd_T41 l0 (rd l3 x13_1)).f0))) (fun _ hk => hk.2) (.slice A326_1 ((rd_T41 l0 (rd l3 x13_1)).f1).length c326_1)) (fun _ hk => hk.2) (.int .i64 ((rd_T41 l0 (rd l3 x13_1)).f2))) (fun _ hk => hk.2) (.int .i64 ((rd_T41 l0 (rd l3 x13_1)).f3))) (fun _ hk => ⟨trivial, hk.1⟩)) hg hat); replace BK327 := mk0 (blk_grown (g := gb327) (o := .cells #[.int .i64 ((rd_T41 l0 (rd l3 x13_1)).f0), .slice A326_1 ((rd_T41 l0 (rd l3 x13_1)).f1).length c326_1, .int .i64 ((rd_T41 l0 (rd l3 x13_1)).f2), .int .i64 ((rd_T41 l0 (rd l3 x13_1)).f3)] 41 (0, 0)) (by (with_reducible repeat (first | refine blk_drewN ?_ _ | refine blk_drew ?_ | refine blk_alloc ?_ _)); refine blk_put (cs := #[.int .i64 ((rd_T41 l0 (rd l3 x13_1)).f0), .slice A326_1 ((rd_T41 l0 (rd l3 x13_1)).f1).length c326_1, .int .i64 ((rd_T41 l0 (rd l3 x13_1)).f2), .int .i64 0]) ?_ 3 _ rfl; (with_reducible repeat (first | refine blk_drewN ?_ _ | refine blk_drew ?_ | refine blk_alloc ?_ _)); refine blk_put (cs := #[.int .i64 ((rd_T41 l0 (rd l3 x13_1)).f0), .slice A326_1 ((rd_T41 l0 (rd l3 x13_1)).f1).length c326_1, .int .i64 0, .int .i64 0]) ?_ 2 _ rfl; (with_reducible repeat (first | refine blk_drewN ?_ _ | refine blk_drew ?_ | refine blk_alloc ?_ _)); refine blk_put (cs := #[.int .i64 ((rd_T41 l0 (rd l3 x13_1)).f0), .slice none 0 0, .int .i64 0, .int .i64 0]) ?_ 1 _ rfl; (with_reducible repeat (first | refine blk_drewN ?_ _ | refine blk_drew ?_ | refine blk_alloc ?_ _)); refine blk_put (cs := #[.int .i64 0, .slice none 0 0, .int .i64 0, .int .i64 0]) ?_ 0 _ rfl; (with_reducible repeat (first | refine blk_drewN ?_ _ | refine blk_drew ?_ | refine blk_alloc ?_ _)); exact BK327.out) hg (Kd.R_ne HO_11.out BK327.out (by decide))); replace HB := mk0 (hb); have HO333 := mk0 (ho); clear HO_11; clear ho hb hg hat; have p334 : 0 ≤ (x13_1 : Int) := od_ (by with_reducible assumption); have q334 : x13_1 < (l3.length : Int) := od_ (by with_reducible assumption); obtain ⟨ad334, e334, hx334_0⟩ := Kd.at_int HR3.out x13_1 p334 q334; obtain rfl : ad325 = ad334 := (by injection e334); replace hx334_0 := (HB.out.cell (World.block_lt_of_cell? w _ hx334_0)).trans hx334_0; replace p334 := eq_true p334; replace q334 := eq_true q334) | ((with_reducible refine gate_builtin (b := .append) (xs := #[.tmp 58, .tmp 63]) rfl ?_); (try (refine gate_guard (by rfl) ?_; dsimp only)); at_builtin; refine Kd.R_append (Kd.int .i64) (w0 := w) w.heap.size rfl (.tmp 58) (.tmp 63) 31 3 (.int .i64 0) 8 rfl Tryd.underlying31 info3 rfl (by decide) (by omega) (.slice Ao26 x12_1.length co26) x12_1 (rd l3 x13_1) [.int .i64 (rd l3 x13_1)] (fun k_ => some k_ ≠ (v332 : Value).ownBlock) (fun _ => False) rfl rfl ?aP (fun _ hk => hk.elim) ?aF ?aO ?aB ?aS ?aL ?_; (case aP => exact rfl); (case aB => exact (by with_reducible repeat (first | exact HB.out | apply ba_ | apply bn_ | apply bd_ | refine below_set ?_ GE327.out))); (case aF => exact (fun k_ hk => Kd.fresh' (Kd.R_lt (by (with_reducible repeat (first | apply Ra_ | apply Rn_ | apply Rd_)); exact HO333.out)) k_ hk)); (case aO => exact (by (with_reducible repeat (first | apply Ra_ | apply Rn_ | apply Rd_)); exact Kd.R_mono HO_12.out (fun _ hk => hk.2))); (case aS => exact (below_size (by with_reducible repeat (first | exact HB.out | apply ba_ | apply bn_ | apply bd_ | refine below_set ?_ GE327.out)))); (case aL => have := LMc23.out; omega); intro v336 w28 ho hb hg hat; rw [← Ny335.out] at ho; replace BK327 := mk0 (blk_grown (g := gb327) (o := .cells #[.int .i64 ((rd_T41 l0 (rd l3 x13_1)).f0), .slice A326_1 ((rd_T41 l0 (rd l3 x13_1)).f1).length c326_1, .int .i64 ((rd_T41 l0 (rd l3 x13_1)).f2), .int .i64 ((rd_T41 l0 (rd l3 x13_1)).f3)] 41 (0, 0)) (by (with_reducible repeat (first | refine blk_drewN ?_ _ | refine blk_drew ?_ | refine blk_alloc ?_ _)); exact BK327.out) hg (Kd.R_ne HO_12.out BK327.out (by decide))); replace HO333 := mk0 (Kd.R_after (ok := (fun _ => True)) (by (with_reducible repeat (first | apply Ra_ | apply Rn_ | apply Rd_)); exact Kd.R_mono HO333.out (fun _ hk => ⟨trivial, hk⟩)) hg hat); replace HB := mk0 (hb); have HO337 := mk0 (ho); clear HO_12; clear ho hb hg hat))
               repeat (go_quiet (first | ((with_reducible refine gate_dst (N := 14) rfl ?_); (try (refine gate_guard (by rfl) ?_; dsimp only)); refine box_event ?hg (N := 14) ?hd (cs := #[.int .i64 0, .slice none 0 0, .int .i64 0, .int .i64 0]) (t := 41) ?hr ?_; (case hd => rfl); (case hg => rfl); (case hr => first | (go_simp; done) | (go_simp; rfl)); intro gb327 hg w24 hbox hb; replace HO_11 := mk0 (Kd.R_below (by (with_reducible repeat (first | apply Ra_ | apply Rn_ | apply Rd_)); exact HO_11.out) hb); replace HO_12 := mk0 (Kd.R_below (by (with_reducible repeat (first | apply Ra_ | apply Rn_ | apply Rd_)); exact HO_12.out) hb); have BK327 := mk0 (hbox); have GW327 := mk0 ((by rw [hg]; exact (below_size (by with_reducible repeat (first | exact HB.out | apply ba_ | apply bn_ | apply bd_))) : w.heap.size ≤ gb327)); have GE327 := mk0 ((by rw [hg]; exact (below_size (by with_reducible repeat (first | exact HB.out | apply ba_ | apply bn_ | apply bd_))) : w.heap.size ≤ gb327)); replace HB := mk0 (below_step (by with_reducible repeat (first | exact HB.out | apply ba_ | apply bn_ | apply bd_)) hb); clear hb hbox hg; have hcz25_0 : w24.cell? ⟨gb327, 0, none⟩ = some (.int .i64 0) := (blk_cell BK327.out 0).trans rfl; have hcz25_1 : w24.cell? ⟨gb327, 1, none⟩ = some (.slice none 0 0) := (blk_cell BK327.out 1).trans rfl; have hcz25_2 : w24.cell? ⟨gb327, 2, none⟩ = some (.int .i64 0) := (blk_cell BK327.out 2).trans rfl; have hcz25_3 : w24.cell? ⟨gb327, 3, none⟩ = some (.int .i64 0) := (blk_cell BK327.out 3).trans rfl; have hfz25_0 := blk_frozen BK327.out 0; have hfz25_1 := blk_frozen BK327.out 1; have hfz25_2 := blk_frozen BK327.out 2; have hfz25_3 := blk_frozen BK327.out 3; obtain ⟨Ao26, co26, eo26⟩ := Kd.R_slice HO_12.out; subst eo26) | (go_at_call 95; (with_reducible refine (spec_used.calls kj9 _ _ l0 _ _ x12_1 ((rd_T41 l0 (rd l3 x13_1)).f2) t328 _ ?side1 ?side2 ?side3 ?side4 A18.out).mono ?_); (case side1 => exact Kd.C_below HR0.out (by with_reducible repeat (first | exact HB.out | apply ba_ | apply bn_ | apply bd_ | refine below_set ?_ GE327.out))); (case side2 => exact HC0.out); (case side3 => refine (Kd.R_reads' (e := 3) (base := w.heap.size) (ok := fun k_ => some k_ ≠ (u11 : Value).ownBlock) (n := x12_1.length) (c := co26) ?_).2.2; exact (by (with_reducible repeat (first | apply Ra_ | apply Rn_ | apply Rd_)); exact (Kd.R_mono (Kd.R_far (p := ⟨gb327, 3, none⟩) (Kd.R_far (p := ⟨gb327, 2, none⟩) (Kd.R_far (p := ⟨gb327, 1, none⟩) (Kd.R_far (p := ⟨gb327, 0, none⟩) (Kd.R_types HO_12.out BK327.out (by decide)) (fun _ hk => hk.2) (.int .i64 ((rd_T41 l0 (rd l3 x13_1)).f0))) (fun _ hk => hk.2) (.slice A326_1 ((rd_T41 l0 (rd l3 x13_1)).f1).length c326_1)) (fun _ hk => hk.2) (.int .i64 ((rd_T41 l0 (rd l3 x13_1)).f2))) (fun _ hk => hk.2) (.int .i64 ((rd_T41 l0 (rd l3 x13_1)).f3))) (fun _ h_ => h_.1)))); (case side4 => exact (Kd.R_reads' HO_12.out).2.1); rintro e w' ⟨rfl, ⟨nd, rfl⟩⟩; (try first | exact ⟨rfl, _, World.drewN_drewN _ _ _⟩ | exact ⟨rfl, _, Eq.trans (World.drewN_drewN _ _ _) (congrArg (World.drewN _) (Nat.add_assoc _ _ _))⟩); have p329 : 0 ≤ (((rd_T41 l0 (rd l3 x13_1)).f2) : Int) := od_ (by with_reducible assumption); have q329 : ((rd_T41 l0 (rd l3 x13_1)).f2) < (l1.length : Int) := od_ (by with_reducible assumption); obtain ⟨ad329, e329, hx329_0⟩ := Kd.at_int HR1.out ((rd_T41 l0 (rd l3 x13_1)).f2) p329 q329; cases e329; have hn329_0 : ad329.block ≠ gb327 := Nat.ne_of_lt (Nat.lt_of_lt_of_le (by have := World.block_lt_of_cell? _ _ hx329_0; first | rwa [add_block] at this | exact this) GW327.out); have hn329_1 : ad329.block ≠ gb327 := Nat.ne_of_lt (Nat.lt_of_lt_of_le (by have := World.block_lt_of_cell? _ _ hx329_0; first | rwa [add_block] at this | exact this) GW327.out); have hn329_2 : ad329.block ≠ gb327 := Nat.ne_of_lt (Nat.lt_of_lt_of_le (by have := World.block_lt_of_cell? _ _ hx329_0; first | rwa [add_block] at this | exact this) GW327.out); have hn329_3 : ad329.block ≠ gb327 := Nat.ne_of_lt (Nat.lt_of_lt_of_le (by have := World.block_lt_of_cell? _ _ hx329_0; first | rwa [add_block] at this | exact this) GW327.out); replace hx329_0 := (HB.out.cell (World.block_lt_of_cell? w _ hx329_0)).trans hx329_0; replace hx329_0 := (cell_far (p := ⟨gb327, 0, none⟩) (by first | (rw [add_block]; exact hn329_0) | (show (Addr.add _ _).block ≠ _; rw [add_block]; exact hn329_0) | exact hn329_0) (.int .i64 ((rd_T41 l0 (rd l3 x13_1)).f0))).trans hx329_0; replace hx329_0 := (cell_far (p := ⟨gb327, 1, none⟩) (by first | (rw [add_block]; exact hn329_1) | (show (Addr.add _ _).block ≠ _; rw [add_block]; exact hn329_1) | exact hn329_1) (.slice A326_1 ((rd_T41 l0 (rd l3 x13_1)).f1).length c326_1)).trans hx329_0; replace hx329_0 := (cell_far (p := ⟨gb327, 2, none⟩) (by first | (rw [add_block]; exact hn329_2) | (show (Addr.add _ _).block ≠ _; rw [add_block]; exact hn329_2) | exact hn329_2) (.int .i64 ((rd_T41 l0 (rd l3 x13_1)).f2))).trans hx329_0; replace hx329_0 := (cell_far (p := ⟨gb327, 3, none⟩) (by first | (rw [add_block]; exact hn329_3) | (show (Addr.add _ _).block ≠ _; rw [add_block]; exact hn329_3) | exact hn329_3) (.int .i64 ((rd_T41 l0 (rd l3 x13_1)).f3))).trans hx329_0; (try have hy329_0 := fun (n_ : Nat) => (show ((((((w24.drewN n_).setCell ⟨gb327, 0, none⟩ (.int .i64 ((rd_T41 l0 (rd l3 x13_1)).f0))).setCell ⟨gb327, 1, none⟩ (.slice A326_1 ((rd_T41 l0 (rd l3 x13_1)).f1).length c326_1)).setCell ⟨gb327, 2, none⟩ (.int .i64 ((rd_T41 l0 (rd l3 x13_1)).f2))).setCell ⟨gb327, 3, none⟩ (.int .i64 ((rd_T41 l0 (rd l3 x13_1)).f3)))).cell? _ = some _ from hx329_0)); clear hn329_0; clear hn329_1; clear hn329_2; clear hn329_3; replace p329 := eq_true p329; replace q329 := eq_true q329; have p330 : 0 ≤ (x13_1 : Int) := od_ (by with_reducible assumption); have q330 : x13_1 < (l3.length : Int) := od_ (by with_reducible assumption); obtain ⟨ad330, e330, hx330_0⟩ := Kd.at_int HR3.out x13_1 p330 q330; obtain rfl : ad325 = ad330 := (by injection e330); have hn330_0 : ad325.block ≠ gb327 := Nat.ne_of_lt (Nat.lt_of_lt_of_le (by have := World.block_lt_of_cell? _ _ hx330_0; first | rwa [add_block] at this | exact this) GW327.out); have hn330_1 : ad325.block ≠ gb327 := Nat.ne_of_lt (Nat.lt_of_lt_of_le (by have := World.block_lt_of_cell? _ _ hx330_0; first | rwa [add_block] at this | exact this) GW327.out); have hn330_2 : ad325.block ≠ gb327 := Nat.ne_of_lt (Nat.lt_of_lt_of_le (by have := World.block_lt_of_cell? _ _ hx330_0; first | rwa [add_block] at this | exact this) GW327.out); have hn330_3 : ad325.block ≠ gb327 := Nat.ne_of_lt (Nat.lt_of_lt_of_le (by have := World.block_lt_of_cell? _ _ hx330_0; first | rwa [add_block] at this | exact this) GW327.out); replace hx330_0 := (HB.out.cell (World.block_lt_of_cell? w _ hx330_0)).trans hx330_0; replace hx330_0 := (cell_far (p := ⟨gb327, 0, none⟩) (by first | (rw [add_block]; exact hn330_0) | (show (Addr.add _ _).block ≠ _; rw [add_block]; exact hn330_0) | exact hn330_0) (.int .i64 ((rd_T41 l0 (rd l3 x13_1)).f0))).trans hx330_0; replace hx330_0 := (cell_far (p := ⟨gb327, 1, none⟩) (by first | (rw [add_block]; exact hn330_1) | (show (Addr.add _ _).block ≠ _; rw [add_block]; exact hn330_1) | exact hn330_1) (.slice A326_1 ((rd_T41 l0 (rd l3 x13_1)).f1).length c326_1)).trans hx330_0; replace hx330_0 := (cell_far (p := ⟨gb327, 2, none⟩) (by first | (rw [add_block]; exact hn330_2) | (show (Addr.add _ _).block ≠ _; rw [add_block]; exact hn330_2) | exact hn330_2) (.int .i64 ((rd_T41 l0 (rd l3 x13_1)).f2))).trans hx330_0; replace hx330_0 := (cell_far (p := ⟨gb327, 3, none⟩) (by first | (rw [add_block]; exact hn330_3) | (show (Addr.add _ _).block ≠ _; rw [add_block]; exact hn330_3) | exact hn330_3) (.int .i64 ((rd_T41 l0 (rd l3 x13_1)).f3))).trans hx330_0; (try have hy330_0 := fun (n_ : Nat) => (show ((((((w24.drewN n_).setCell ⟨gb327, 0, none⟩ (.int .i64 ((rd_T41 l0 (rd l3 x13_1)).f0))).setCell ⟨gb327, 1, none⟩ (.slice A326_1 ((rd_T41 l0 (rd l3 x13_1)).f1).length c326_1)).setCell ⟨gb327, 2, none⟩ (.int .i64 ((rd_T41 l0 (rd l3 x13_1)).f2))).setCell ⟨gb327, 3, none⟩ (.int .i64 ((rd_T41 l0 (rd l3 x13_1)).f3)))).cell? _ = some _ from hx330_0)); clear hn330_0; clear hn330_1; clear hn330_2; clear hn330_3; replace p330 := eq_true p330; replace q330 := eq_true q330) | ((with_reducible refine gate_builtin (b := .append) (xs := #[.tmp 51, .tmp 56]) rfl ?_); (try (refine gate_guard (by rfl) ?_; dsimp only)); at_builtin; refine Kd.R_append (Kd.int .i64) (w0 := w) w.heap.size rfl (.tmp 51) (.tmp 56) 31 3 (.int .i64 0) 8 rfl Tryd.underlying31 info3 rfl (by decide) (by omega) u11 x11_1 (rd l3 x13_1) [.int .i64 (rd l3 x13_1)] (fun k_ => some k_ ≠ (.slice Ao26 x12_1.length co26 : Value).ownBlock) (fun _ => False) rfl (by first | (go_simp; done) | (go_simp; rfl)) ?aP (fun _ hk => hk.elim) ?aF ?aO ?aB ?aS ?aL ?_; (case aP => exact rfl); (case aB => exact (by with_reducible repeat (first | exact HB.out | apply ba_ | apply bn_ | apply bd_ | refine below_set ?_ GE327.out))); (case aF => exact (fun k_ hk => Kd.fresh' (Kd.R_lt (by (with_reducible repeat (first | apply Ra_ | apply Rn_ | apply Rd_)); exact (Kd.R_mono (Kd.R_far (p := ⟨gb327, 3, none⟩) (Kd.R_far (p := ⟨gb327, 2, none⟩) (Kd.R_far (p := ⟨gb327, 1, none⟩) (Kd.R_far (p := ⟨gb327, 0, none⟩) (Kd.R_types HO_12.out BK327.out (by decide)) (fun _ hk => hk.2) (.int .i64 ((rd_T41 l0 (rd l3 x13_1)).f0))) (fun _ hk => hk.2) (.slice A326_1 ((rd_T41 l0 (rd l3 x13_1)).f1).length c326_1)) (fun _ hk => hk.2) (.int .i64 ((rd_T41 l0 (rd l3 x13_1)).f2))) (fun _ hk => hk.2) (.int .i64 ((rd_T41 l0 (rd l3 x13_1)).f3))) (fun _ h_ => h_.1)))) k_ hk)); (case aO => exact (by (with_reducible repeat (first | apply Ra_ | apply Rn_ | apply Rd_)); exact Kd.R_mono (Kd.R_far (p := ⟨gb327, 3, none⟩) (Kd.R_far (p := ⟨gb327, 2, none⟩) (Kd.R_far (p := ⟨gb327, 1, none⟩) (Kd.R_far (p := ⟨gb327, 0, none⟩) (Kd.R_types HO_11.out BK327.out (by decide)) (fun _ hk => hk.2) (.int .i64 ((rd_T41 l0 (rd l3 x13_1)).f0))) (fun _ hk => hk.2) (.slice A326_1 ((rd_T41 l0 (rd l3 x13_1)).f1).length c326_1)) (fun _ hk => hk.2) (.int .i64 ((rd_T41 l0 (rd l3 x13_1)).f2))) (fun _ hk => hk.2) (.int .i64 ((rd_T41 l0 (rd l3 x13_1)).f3))) (fun _ hk => hk.1))); (case aS => exact (below_size (by with_reducible repeat (first | exact HB.out | apply ba_ | apply bn_ | apply bd_ | refine below_set ?_ GE327.out)))); (case aL => have := LMc22.out; omega); intro v332 w27 ho hb hg hat; rw [← Ny331.out] at ho; replace HO_12 := mk0 (Kd.R_after (ok := (fun _ => True)) (by (with_reducible repeat (first | apply Ra_ | apply Rn_ | apply Rd_)); exact Kd.R_mono (Kd.R_far (p := ⟨gb327, 3, none⟩) (Kd.R_far (p := ⟨gb327, 2, none⟩) (Kd.R_far (p := ⟨gb327, 1, none⟩) (Kd.R_far (p := ⟨gb327, 0, none⟩) (Kd.R_types HO_12.out BK327.out (by decide)) (fun _ hk => hk.2) (.int .i64 ((rd_T41 l0 (rd l3 x13_1)).f0))) (fun _ hk => hk.2) (.slice A326_1 ((rd_T41 l0 (rd l3 x13_1)).f1).length c326_1)) (fun _ hk => hk.2) (.int .i64 ((rd_T41 l0 (rd l3 x13_1)).f2))) (fun _ hk => hk.2) (.int .i64 ((rd_T41 l0 (rd l3 x13_1)).f3))) (fun _ hk => ⟨trivial, hk.1⟩)) hg hat); replace BK327 := mk0 (blk_grown (g := gb327) (o := .cells #[.int .i64 ((rd_T41 l0 (rd l3 x13_1)).f0), .slice A326_1 ((rd_T41 l0 (rd l3 x13_1)).f1).length c326_1, .int .i64 ((rd_T41 l0 (rd l3 x13_1)).f2), .int .i64 ((rd_T41 l0 (rd l3 x13_1)).f3)] 41 (0, 0)) (by (with_reducible repeat (first | refine blk_drewN ?_ _ | refine blk_drew ?_ | refine blk_alloc ?_ _)); refine blk_put (cs := #[.int .i64 ((rd_T41 l0 (rd l3 x13_1)).f0), .slice A326_1 ((rd_T41 l0 (rd l3 x13_1)).f1).length c326_1, .int .i64 ((rd_T41 l0 (rd l3 x13_1)).f2), .int .i64 0]) ?_ 3 _ rfl; (with_reducible repeat (first | refine blk_drewN ?_ _ | refine blk_drew ?_ | refine blk_alloc ?_ _)); refine blk_put (cs := #[.int .i64 ((rd_T41 l0 (rd l3 x13_1)).f0), .slice A326_1 ((rd_T41 l0 (rd l3 x13_1)).f1).length c326_1, .int .i64 0, .int .i64 0]) ?_ 2 _ rfl; (with_reducible repeat (first | refine blk_drewN ?_ _ | refine blk_drew ?_ | refine blk_alloc ?_ _)); refine blk_put (cs := #[.int .i64 ((rd_T41 l0 (rd l3 x13_1)).f0), .slice none 0 0, .int .i64 0, .int .i64 0]) ?_ 1 _ rfl; (with_reducible repeat (first | refine blk_drewN ?_ _ | refine blk_drew ?_ | refine blk_alloc ?_ _)); refine blk_put (cs := #[.int .i64 0, .slice none 0 0, .int .i64 0, .int .i64 0]) ?_ 0 _ rfl; (with_reducible repeat (first | refine blk_drewN ?_ _ | refine blk_drew ?_ | refine blk_alloc ?_ _)); exact BK327.out) hg (Kd.R_ne HO_11.out BK327.out (by decide))); replace HB := mk0 (hb); have HO333 := mk0 (ho); clear HO_11; clear ho hb hg hat; have p334 : 0 ≤ (x13_1 : Int) := od_ (by with_reducible assumption); have q334 : x13_1 < (l3.length : Int) := od_ (by with_reducible assumption); obtain ⟨ad334, e334, hx334_0⟩ := Kd.at_int HR3.out x13_1 p334 q334; obtain rfl : ad325 = ad334 := (by injection e334); replace hx334_0 := (HB.out.cell (World.block_lt_of_cell? w _ hx334_0)).trans hx334_0; replace p334 := eq_true p334; replace q334 := eq_true q334) | ((with_reducible refine gate_builtin (b := .append) (xs := #[.tmp 58, .tmp 63]) rfl ?_); (try (refine gate_guard (by rfl) ?_; dsimp only)); at_builtin; refine Kd.R_append (Kd.int .i64) (w0 := w) w.heap.size rfl (.tmp 58) (.tmp 63) 31 3 (.int .i64 0) 8 rfl Tryd.underlying31 info3 rfl (by decide) (by omega) (.slice Ao26 x12_1.length co26) x12_1 (rd l3 x13_1) [.int .i64 (rd l3 x13_1)] (fun k_ => some k_ ≠ (v332 : Value).ownBlock) (fun _ => False) rfl rfl ?aP (fun _ hk => hk.elim) ?aF ?aO ?aB ?aS ?aL ?_; (case aP => exact rfl); (case aB => exact (by with_reducible repeat (first | exact HB.out | apply ba_ | apply bn_ | apply bd_ | refine below_set ?_ GE327.out))); (case aF => exact (fun k_ hk => Kd.fresh' (Kd.R_lt (by (with_reducible repeat (first | apply Ra_ | apply Rn_ | apply Rd_)); exact HO333.out)) k_ hk)); (case aO => exact (by (with_reducible repeat (first | apply Ra_ | apply Rn_ | apply Rd_)); exact Kd.R_mono HO_12.out (fun _ hk => hk.2))); (case aS => exact (below_size (by with_reducible repeat (first | exact HB.out | apply ba_ | apply bn_ | apply bd_ | refine below_set ?_ GE327.out)))); (case aL => have := LMc23.out; omega); intro v336 w28 ho hb hg hat; rw [← Ny335.out] at ho; replace BK327 := mk0 (blk_grown (g := gb327) (o := .cells #[.int .i64 ((rd_T41 l0 (rd l3 x13_1)).f0), .slice A326_1 ((rd_T41 l0 (rd l3 x13_1)).f1).length c326_1, .int .i64 ((rd_T41 l0 (rd l3 x13_1)).f2), .int .i64 ((rd_T41 l0 (rd l3 x13_1)).f3)] 41 (0, 0)) (by (with_reducible repeat (first | refine blk_drewN ?_ _ | refine blk_drew ?_ | refine blk_alloc ?_ _)); exact BK327.out) hg (Kd.R_ne HO_12.out BK327.out (by decide))); replace HO333 := mk0 (Kd.R_after (ok := (fun _ => True)) (by (with_reducible repeat (first | apply Ra_ | apply Rn_ | apply Rd_)); exact Kd.R_mono HO333.out (fun _ hk => ⟨trivial, hk⟩)) hg hat); replace HB := mk0 (hb); have HO337 := mk0 (ho); clear HO_12; clear ho hb hg hat)); try go_wp2_with (first | ((with_reducible refine gate_dst (N := 14) rfl ?_); (try (refine gate_guard (by rfl) ?_; dsimp only)); refine box_event ?hg (N := 14) ?hd (cs := #[.int .i64 0, .slice none 0 0, .int .i64 0, .int .i64 0]) (t := 41) ?hr ?_; (case hd => rfl); (case hg => rfl); (case hr => first | (go_simp; done) | (go_simp; rfl)); intro gb327 hg w24 hbox hb; replace HO_11 := mk0 (Kd.R_below (by (with_reducible repeat (first | apply Ra_ | apply Rn_ | apply Rd_)); exact HO_11.out) hb); replace HO_12 := mk0 (Kd.R_below (by (with_reducible repeat (first | apply Ra_ | apply Rn_ | apply Rd_)); exact HO_12.out) hb); have BK327 := mk0 (hbox); have GW327 := mk0 ((by rw [hg]; exact (below_size (by with_reducible repeat (first | exact HB.out | apply ba_ | apply bn_ | apply bd_))) : w.heap.size ≤ gb327)); have GE327 := mk0 ((by rw [hg]; exact (below_size (by with_reducible repeat (first | exact HB.out | apply ba_ | apply bn_ | apply bd_))) : w.heap.size ≤ gb327)); replace HB := mk0 (below_step (by with_reducible repeat (first | exact HB.out | apply ba_ | apply bn_ | apply bd_)) hb); clear hb hbox hg; have hcz25_0 : w24.cell? ⟨gb327, 0, none⟩ = some (.int .i64 0) := (blk_cell BK327.out 0).trans rfl; have hcz25_1 : w24.cell? ⟨gb327, 1, none⟩ = some (.slice none 0 0) := (blk_cell BK327.out 1).trans rfl; have hcz25_2 : w24.cell? ⟨gb327, 2, none⟩ = some (.int .i64 0) := (blk_cell BK327.out 2).trans rfl; have hcz25_3 : w24.cell? ⟨gb327, 3, none⟩ = some (.int .i64 0) := (blk_cell BK327.out 3).trans rfl; have hfz25_0 := blk_frozen BK327.out 0; have hfz25_1 := blk_frozen BK327.out 1; have hfz25_2 := blk_frozen BK327.out 2; have hfz25_3 := blk_frozen BK327.out 3; obtain ⟨Ao26, co26, eo26⟩ := Kd.R_slice HO_12.out; subst eo26) | (go_at_call 95; (with_reducible refine (spec_used.calls kj9 _ _ l0 _ _ x12_1 ((rd_T41 l0 (rd l3 x13_1)).f2) t328 _ ?side1 ?side2 ?side3 ?side4 A18.out).mono ?_); (case side1 => exact Kd.C_below HR0.out (by with_reducible repeat (first | exact HB.out | apply ba_ | apply bn_ | apply bd_ | refine below_set ?_ GE327.out))); (case side2 => exact HC0.out); (case side3 => refine (Kd.R_reads' (e := 3) (base := w.heap.size) (ok := fun k_ => some k_ ≠ (u11 : Value).ownBlock) (n := x12_1.length) (c := co26) ?_).2.2; exact (by (with_reducible repeat (first | apply Ra_ | apply Rn_ | apply Rd_)); exact (Kd.R_mono (Kd.R_far (p := ⟨gb327, 3, none⟩) (Kd.R_far (p := ⟨gb327, 2, none⟩) (Kd.R_far (p := ⟨gb327, 1, none⟩) (Kd.R_far (p := ⟨gb327, 0, none⟩) (Kd.R_types HO_12.out BK327.out (by decide)) (fun _ hk => hk.2) (.int .i64 ((rd_T41 l0 (rd l3 x13_1)).f0))) (fun _ hk => hk.2) (.slice A326_1 ((rd_T41 l0 (rd l3 x13_1)).f1).length c326_1)) (fun _ hk => hk.2) (.int .i64 ((rd_T41 l0 (rd l3 x13_1)).f2))) (fun _ hk => hk.2) (.int .i64 ((rd_T41 l0 (rd l3 x13_1)).f3))) (fun _ h_ => h_.1)))); (case side4 => exact (Kd.R_reads' HO_12.out).2.1); rintro e w' ⟨rfl, ⟨nd, rfl⟩⟩; (try first | exact ⟨rfl, _, World.drewN_drewN _ _ _⟩ | exact ⟨rfl, _, Eq.trans (World.drewN_drewN _ _ _) (congrArg (World.drewN _) (Nat.add_assoc _ _ _))⟩); have p329 : 0 ≤ (((rd_T41 l0 (rd l3 x13_1)).f2) : Int) := od_ (by with_reducible assumption); have q329 : ((rd_T41 l0 (rd l3 x13_1)).f2) < (l1.length : Int) := od_ (by with_reducible assumption); obtain ⟨ad329, e329, hx329_0⟩ := Kd.at_int HR1.out ((rd_T41 l0 (rd l3 x13_1)).f2) p329 q329; cases e329; have hn329_0 : ad329.block ≠ gb327 := Nat.ne_of_lt (Nat.lt_of_lt_of_le (by have := World.block_lt_of_cell? _ _ hx329_0; first | rwa [add_block] at this | exact this) GW327.out); have hn329_1 : ad329.block ≠ gb327 := Nat.ne_of_lt (Nat.lt_of_lt_of_le (by have := World.block_lt_of_cell? _ _ hx329_0; first | rwa [add_block] at this | exact this) GW327.out); have hn329_2 : ad329.block ≠ gb327 := Nat.ne_of_lt (Nat.lt_of_lt_of_le (by have := World.block_lt_of_cell? _ _ hx329_0; first | rwa [add_block] at this | exact this) GW327.out); have hn329_3 : ad329.block ≠ gb327 := Nat.ne_of_lt (Nat.lt_of_lt_of_le (by have := World.block_lt_of_cell? _ _ hx329_0; first | rwa [add_block] at this | exact this) GW327.out); replace hx329_0 := (HB.out.cell (World.block_lt_of_cell? w _ hx329_0)).trans hx329_0; replace hx329_0 := (cell_far (p := ⟨gb327, 0, none⟩) (by first | (rw [add_block]; exact hn329_0) | (show (Addr.add _ _).block ≠ _; rw [add_block]; exact hn329_0) | exact hn329_0) (.int .i64 ((rd_T41 l0 (rd l3 x13_1)).f0))).trans hx329_0; replace hx329_0 := (cell_far (p := ⟨gb327, 1, none⟩) (by first | (rw [add_block]; exact hn329_1) | (show (Addr.add _ _).block ≠ _; rw [add_block]; exact hn329_1) | exact hn329_1) (.slice A326_1 ((rd_T41 l0 (rd l3 x13_1)).f1).length c326_1)).trans hx329_0; replace hx329_0 := (cell_far (p := ⟨gb327, 2, none⟩) (by first | (rw [add_block]; exact hn329_2) | (show (Addr.add _ _).block ≠ _; rw [add_block]; exact hn329_2) | exact hn329_2) (.int .i64 ((rd_T41 l0 (rd l3 x13_1)).f2))).trans hx329_0; replace hx329_0 := (cell_far (p := ⟨gb327, 3, none⟩) (by first | (rw [add_block]; exact hn329_3) | (show (Addr.add _ _).block ≠ _; rw [add_block]; exact hn329_3) | exact hn329_3) (.int .i64 ((rd_T41 l0 (rd l3 x13_1)).f3))).trans hx329_0; (try have hy329_0 := fun (n_ : Nat) => (show ((((((w24.drewN n_).setCell ⟨gb327, 0, none⟩ (.int .i64 ((rd_T41 l0 (rd l3 x13_1)).f0))).setCell ⟨gb327, 1, none⟩ (.slice A326_1 ((rd_T41 l0 (rd l3 x13_1)).f1).length c326_1)).setCell ⟨gb327, 2, none⟩ (.int .i64 ((rd_T41 l0 (rd l3 x13_1)).f2))).setCell ⟨gb327, 3, none⟩ (.int .i64 ((rd_T41 l0 (rd l3 x13_1)).f3)))).cell? _ = some _ from hx329_0)); clear hn329_0; clear hn329_1; clear hn329_2; clear hn329_3; replace p329 := eq_true p329; replace q329 := eq_true q329; have p330 : 0 ≤ (x13_1 : Int) := od_ (by with_reducible assumption); have q330 : x13_1 < (l3.length : Int) := od_ (by with_reducible assumption); obtain ⟨ad330, e330, hx330_0⟩ := Kd.at_int HR3.out x13_1 p330 q330; obtain rfl : ad325 = ad330 := (by injection e330); have hn330_0 : ad325.block ≠ gb327 := Nat.ne_of_lt (Nat.lt_of_lt_of_le (by have := World.block_lt_of_cell? _ _ hx330_0; first | rwa [add_block] at this | exact this) GW327.out); have hn330_1 : ad325.block ≠ gb327 := Nat.ne_of_lt (Nat.lt_of_lt_of_le (by have := World.block_lt_of_cell? _ _ hx330_0; first | rwa [add_block] at this | exact this) GW327.out); have hn330_2 : ad325.block ≠ gb327 := Nat.ne_of_lt (Nat.lt_of_lt_of_le (by have := World.block_lt_of_cell? _ _ hx330_0; first | rwa [add_block] at this | exact this) GW327.out); have hn330_3 : ad325.block ≠ gb327 := Nat.ne_of_lt (Nat.lt_of_lt_of_le (by have := World.block_lt_of_cell? _ _ hx330_0; first | rwa [add_block] at this | exact this) GW327.out); replace hx330_0 := (HB.out.cell (World.block_lt_of_cell? w _ hx330_0)).trans hx330_0; replace hx330_0 := (cell_far (p := ⟨gb327, 0, none⟩) (by first | (rw [add_block]; exact hn330_0) | (show (Addr.add _ _).block ≠ _; rw [add_block]; exact hn330_0) | exact hn330_0) (.int .i64 ((rd_T41 l0 (rd l3 x13_1)).f0))).trans hx330_0; replace hx330_0 := (cell_far (p := ⟨gb327, 1, none⟩) (by first | (rw [add_block]; exact hn330_1) | (show (Addr.add _ _).block ≠ _; rw [add_block]; exact hn330_1) | exact hn330_1) (.slice A326_1 ((rd_T41 l0 (rd l3 x13_1)).f1).length c326_1)).trans hx330_0; replace hx330_0 := (cell_far (p := ⟨gb327, 2, none⟩) (by first | (rw [add_block]; exact hn330_2) | (show (Addr.add _ _).block ≠ _; rw [add_block]; exact hn330_2) | exact hn330_2) (.int .i64 ((rd_T41 l0 (rd l3 x13_1)).f2))).trans hx330_0; replace hx330_0 := (cell_far (p := ⟨gb327, 3, none⟩) (by first | (rw [add_block]; exact hn330_3) | (show (Addr.add _ _).block ≠ _; rw [add_block]; exact hn330_3) | exact hn330_3) (.int .i64 ((rd_T41 l0 (rd l3 x13_1)).f3))).trans hx330_0; (try have hy330_0 := fun (n_ : Nat) => (show ((((((w24.drewN n_).setCell ⟨gb327, 0, none⟩ (.int .i64 ((rd_T41 l0 (rd l3 x13_1)).f0))).setCell ⟨gb327, 1, none⟩ (.slice A326_1 ((rd_T41 l0 (rd l3 x13_1)).f1).length c326_1)).setCell ⟨gb327, 2, none⟩ (.int .i64 ((rd_T41 l0 (rd l3 x13_1)).f2))).setCell ⟨gb327, 3, none⟩ (.int .i64 ((rd_T41 l0 (rd l3 x13_1)).f3)))).cell? _ = some _ from hx330_0)); clear hn330_0; clear hn330_1; clear hn330_2; clear hn330_3; replace p330 := eq_true p330; replace q330 := eq_true q330) | ((with_reducible refine gate_builtin (b := .append) (xs := #[.tmp 51, .tmp 56]) rfl ?_); (try (refine gate_guard (by rfl) ?_; dsimp only)); at_builtin; refine Kd.R_append (Kd.int .i64) (w0 := w) w.heap.size rfl (.tmp 51) (.tmp 56) 31 3 (.int .i64 0) 8 rfl Tryd.underlying31 info3 rfl (by decide) (by omega) u11 x11_1 (rd l3 x13_1) [.int .i64 (rd l3 x13_1)] (fun k_ => some k_ ≠ (.slice Ao26 x12_1.length co26 : Value).ownBlock) (fun _ => False) rfl (by first | (go_simp; done) | (go_simp; rfl)) ?aP (fun _ hk => hk.elim) ?aF ?aO ?aB ?aS ?aL ?_; (case aP => exact rfl); (case aB => exact (by with_reducible repeat (first | exact HB.out | apply ba_ | apply bn_ | apply bd_ | refine below_set ?_ GE327.out))); (case aF => exact (fun k_ hk => Kd.fresh' (Kd.R_lt (by (with_reducible repeat (first | apply Ra_ | apply Rn_ | apply Rd_)); exact (Kd.R_mono (Kd.R_far (p := ⟨gb327, 3, none⟩) (Kd.R_far (p := ⟨gb327, 2, none⟩) (Kd.R_far (p := ⟨gb327, 1, none⟩) (Kd.R_far (p := ⟨gb327, 0, none⟩) (Kd.R_types HO_12.out BK327.out (by decide)) (fun _ hk => hk.2) (.int .i64 ((rd_T41 l0 (rd l3 x13_1)).f0))) (fun _ hk => hk.2) (.slice A326_1 ((rd_T41 l0 (rd l3 x13_1)).f1).length c326_1)) (fun _ hk => hk.2) (.int .i64 ((rd_T41 l0 (rd l3 x13_1)).f2))) (fun _ hk => hk.2) (.int .i64 ((rd_T41 l0 (rd l3 x13_1)).f3))) (fun _ h_ => h_.1)))) k_ hk)); (case aO => exact (by (with_reducible repeat (first | apply Ra_ | apply Rn_ | apply Rd_)); exact Kd.R_mono (Kd.R_far (p := ⟨gb327, 3, none⟩) (Kd.R_far (p := ⟨gb327, 2, none⟩) (Kd.R_far (p := ⟨gb327, 1, none⟩) (Kd.R_far (p := ⟨gb327, 0, none⟩) (Kd.R_types HO_11.out BK327.out (by decide)) (fun _ hk => hk.2) (.int .i64 ((rd_T41 l0 (rd l3 x13_1)).f0))) (fun _ hk => hk.2) (.slice A326_1 ((rd_T41 l0 (rd l3 x13_1)).f1).length c326_1)) (fun _ hk => hk.2) (.int .i64 ((rd_T41 l0 (rd l3 x13_1)).f2))) (fun _ hk => hk.2) (.int .i64 ((rd_T41 l0 (rd l3 x13_1)).f3))) (fun _ hk => hk.1))); (case aS => exact (below_size (by with_reducible repeat (first | exact HB.out | apply ba_ | apply bn_ | apply bd_ | refine below_set ?_ GE327.out)))); (case aL => have := LMc22.out; omega); intro v332 w27 ho hb hg hat; rw [← Ny331.out] at ho; replace HO_12 := mk0 (Kd.R_after (ok := (fun _ => True)) (by (with_reducible repeat (first | apply Ra_ | apply Rn_ | apply Rd_)); exact Kd.R_mono (Kd.R_far (p := ⟨gb327, 3, none⟩) (Kd.R_far (p := ⟨gb327, 2, none⟩) (Kd.R_far (p := ⟨gb327, 1, none⟩) (Kd.R_far (p := ⟨gb327, 0, none⟩) (Kd.R_types HO_12.out BK327.out (by decide)) (fun _ hk => hk.2) (.int .i64 ((rd_T41 l0 (rd l3 x13_1)).f0))) (fun _ hk => hk.2) (.slice A326_1 ((rd_T41 l0 (rd l3 x13_1)).f1).length c326_1)) (fun _ hk => hk.2) (.int .i64 ((rd_T41 l0 (rd l3 x13_1)).f2))) (fun _ hk => hk.2) (.int .i64 ((rd_T41 l0 (rd l3 x13_1)).f3))) (fun _ hk => ⟨trivial, hk.1⟩)) hg hat); replace BK327 := mk0 (blk_grown (g := gb327) (o := .cells #[.int .i64 ((rd_T41 l0 (rd l3 x13_1)).f0), .slice A326_1 ((rd_T41 l0 (rd l3 x13_1)).f1).length c326_1, .int .i64 ((rd_T41 l0 (rd l3 x13_1)).f2), .int .i64 ((rd_T41 l0 (rd l3 x13_1)).f3)] 41 (0, 0)) (by (with_reducible repeat (first | refine blk_drewN ?_ _ | refine blk_drew ?_ | refine blk_alloc ?_ _)); refine blk_put (cs := #[.int .i64 ((rd_T41 l0 (rd l3 x13_1)).f0), .slice A326_1 ((rd_T41 l0 (rd l3 x13_1)).f1).length c326_1, .int .i64 ((rd_T41 l0 (rd l3 x13_1)).f2), .int .i64 0]) ?_ 3 _ rfl; (with_reducible repeat (first | refine blk_drewN ?_ _ | refine blk_drew ?_ | refine blk_alloc ?_ _)); refine blk_put (cs := #[.int .i64 ((rd_T41 l0 (rd l3 x13_1)).f0), .slice A326_1 ((rd_T41 l0 (rd l3 x13_1)).f1).length c326_1, .int .i64 0, .int .i64 0]) ?_ 2 _ rfl; (with_reducible repeat (first | refine blk_drewN ?_ _ | refine blk_drew ?_ | refine blk_alloc ?_ _)); refine blk_put (cs := #[.int .i64 ((rd_T41 l0 (rd l3 x13_1)).f0), .slice none 0 0, .int .i64 0, .int .i64 0]) ?_ 1 _ rfl; (with_reducible repeat (first | refine blk_drewN ?_ _ | refine blk_drew ?_ | refine blk_alloc ?_ _)); refine blk_put (cs := #[.int .i64 0, .slice none 0 0, .int .i64 0, .int .i64 0]) ?_ 0 _ rfl; (with_reducible repeat (first | refine blk_drewN ?_ _ | refine blk_drew ?_ | refine blk_alloc ?_ _)); exact BK327.out) hg (Kd.R_ne HO_11.out BK327.out (by decide))); replace HB := mk0 (hb); have HO333 := mk0 (ho); clear HO_11; clear ho hb hg hat; have p334 : 0 ≤ (x13_1 : Int) := od_ (by with_reducible assumption); have q334 : x13_1 < (l3.length : Int) := od_ (by with_reducible assumption); obtain ⟨ad334, e334, hx334_0⟩ := Kd.at_int HR3.out x13_1 p334 q334; obtain rfl : ad325 = ad334 := (by injection e334); replace hx334_0 := (HB.out.cell (World.block_lt_of_cell? w _ hx334_0)).trans hx334_0; replace p334 := eq_true p334; replace q334 := eq_true q334) | ((with_reducible refine gate_builtin (b := .append) (xs := #[.tmp 58, .tmp 63]) rfl ?_); (try (refine gate_guard (by rfl) ?_; dsimp only)); at_builtin; refine Kd.R_append (Kd.int .i64) (w0 := w) w.heap.size rfl (.tmp 58) (.tmp 63) 31 3 (.int .i64 0) 8 rfl Tryd.underlying31 info3 rfl (by decide) (by omega) (.slice Ao26 x12_1.length co26) x12_1 (rd l3 x13_1) [.int .i64 (rd l3 x13_1)] (fun k_ => some k_ ≠ (v332 : Value).ownBlock) (fun _ => False) rfl rfl ?aP (fun _ hk => hk.elim) ?aF ?aO ?aB ?aS ?aL ?_; (case aP => exact rfl); (case aB => exact (by with_reducible repeat (first | exact HB.out | apply ba_ | apply bn_ | apply bd_ | refine below_set ?_ GE327.out))); (case aF => exact (fun k_ hk => Kd.fresh' (Kd.R_lt (by (with_reducible repeat (first | apply Ra_ | apply Rn_ | apply Rd_)); exact HO333.out)) k_ hk)); (case aO => exact (by (with_reducible repeat (first | apply Ra_ | apply Rn_ | apply Rd_)); exact Kd.R_mono HO_12.out (fun _ hk => hk.2))); (case aS => exact (below_size (by with_reducible repeat (first | exact HB.out | apply ba_ | apply bn_ | apply bd_ | refine below_set ?_ GE327.out)))); (case aL => have := LMc23.out; omega); intro v336 w28 ho hb hg hat; rw [← Ny335.out] at ho; replace BK327 := mk0 (blk_grown (g := gb327) (o := .cells #[.int .i64 ((rd_T41 l0 (rd l3 x13_1)).f0), .slice A326_1 ((rd_T41 l0 (rd l3 x13_1)).f1).length c326_1, .int .i64 ((rd_T41 l0 (rd l3 x13_1)).f2), .int .i64 ((rd_T41 l0 (rd l3 x13_1)).f3)] 41 (0, 0)) (by (with_reducible repeat (first | refine blk_drewN ?_ _ | refine blk_drew ?_ | refine blk_alloc ?_ _)); exact BK327.out) hg (Kd.R_ne HO_12.out BK327.out (by decide))); replace HO333 := mk0 (Kd.R_after (ok := (fun _ => True)) (by (with_reducible repeat (first | apply Ra_ | apply Rn_ | apply Rd_)); exact Kd.R_mono HO333.out (fun _ hk => ⟨trivial, hk⟩)) hg hat); replace HB := mk0 (hb); have HO337 := mk0 (ho); clear HO_12; clear ho hb hg hat)))
               go_roundg kj9
               case measure => have := HK1.out; have := HJ9.out; omega
               case rel => exact ⟨(y331), (y335), (wrap64 (x13_1 + 1)), (by first | rfl | (simp; done) | (simp [*]; done)), H', ⟨by have := HK1.out; have := HJ9.out; omega⟩, ⟨by (with_reducible repeat (first | apply Ra_ | apply Rn_ | apply Rd_)); exact Kd.R_mono HO333.out (fun _ hk => hk.2)⟩, ⟨by (with_reducible repeat (first | apply Ra_ | apply Rn_ | apply Rd_)); exact HO337.out⟩, ⟨by with_reducible repeat (first | exact HB.out | apply ba_ | apply bn_ | apply bd_ | refine below_set ?_ GE327.out)⟩⟩
              ·
               rw [if_neg c23] at H
               exact nn_ H
             ·
              rw [if_neg c22] at H
              exact nn_ H
            ·
             rw [if_neg c21] at H
             have c21b0 : decide ((wrap64 (t328 + ((rd_T41 l0 (rd l3 x13_1)).f3))) ≤ (rd l1 ((rd_T41 l0 (rd l3 x13_1)).f2))) = false := decide_eq_false c21
             have c21b9 : decide (IntKind.i64.wrap (t328 + ((rd_T41 l0 (rd l3 x13_1)).f3)) ≤ (rd l1 ((rd_T41 l0 (rd l3 x13_1)).f2))) = false := by have q := c21b0; unfold wrap64 at q; rw [IntKind.wrap_i64]; exact q
             have c21b8 : (IntKind.i64.wrap (t328 + ((rd_T41 l0 (rd l3 x13_1)).f3)) ≤ (rd l1 ((rd_T41 l0 (rd l3 x13_1)).f2))) = False := eq_false (of_decide_eq_false c21b9)
             clear c21
             have H' := mk0 H
             clear H
             have p325 : 0 ≤ (x13_1 : Int) := od_ (by with_reducible assumption)
             have q325 : x13_1 < (l3.length : Int) := od_ (by with_reducible assumption)
             obtain ⟨ad325, e325, hx325_0⟩ := Kd.at_int HR3.out x13_1 p325 q325
             cases e325
             replace hx325_0 := (HB.out.cell (World.block_lt_of_cell? w _ hx325_0)).trans hx325_0
             replace p325 := eq_true p325
             replace q325 := eq_true q325
             have p326 : 0 ≤ ((rd l3 x13_1) : Int) := od_ (by with_reducible assumption)
             have q326 : (rd l3 x13_1) < (l0.length : Int) := od_ (by with_reducible assumption)
             obtain ⟨ad326, A326_1, c326_1, e326, hx326_0, hx326_1, hx326_2, hx326_3, hl326_1, hi326_1⟩ := at_T41 HR0.out (rd l3 x13_1) p326 q326
             cases e326
             replace hx326_0 := (HB.out.cell (World.block_lt_of_cell? w _ hx326_0)).trans hx326_0
             replace hx326_1 := (HB.out.cell (World.block_lt_of_cell? w _ hx326_1)).trans hx326_1
             replace hx326_2 := (HB.out.cell (World.block_lt_of_cell? w _ hx326_2)).trans hx326_2
             replace hx326_3 := (HB.out.cell (World.block_lt_of_cell? w _ hx326_3)).trans hx326_3
             have HR326_1 := mk0 hi326_1
             have HC326_1 := mk0 hl326_1
             clear hi326_1 hl326_1
             replace p326 := eq_true p326
             replace q326 := eq_true q326
             go_wp2_with (first | ((with_reducible refine gate_dst (N := 14) rfl ?_); (try (refine gate_guard (by rfl) ?_; dsimp only)); refine box_event ?hg (N := 14) ?hd (cs := #[.int .i64 0, .slice none 0 0, .int .i64 0, .int .i64 0]) (t := 41) ?hr ?_; (case hd => rfl); (case hg => rfl); (case hr => first | (go_simp; done) | (go_simp; rfl)); intro gb327 hg w29 hbox hb; replace HO_11 := mk0 (Kd.R_below (by (with_reducible repeat (first | apply Ra_ | apply Rn_ | apply Rd_)); exact HO_11.out) hb); replace HO_12 := mk0 (Kd.R_below (by (with_reducible repeat (first | apply Ra_ | apply Rn_ | apply Rd_)); exact HO_12.out) hb); have BK327 := mk0 (hbox); have GW327 := mk0 ((by rw [hg]; exact (below_size (by with_reducible repeat (first | exact HB.out | apply ba_ | apply bn_ | apply bd_))) : w.heap.size ≤ gb327)); have GE327 := mk0 ((by rw [hg]; exact (below_size (by with_reducible repeat (first | exact HB.out | apply ba_ | apply bn_ | apply bd_))) : w.heap.size ≤ gb327)); replace HB := mk0 (below_step (by with_reducible repeat (first | exact HB.out | apply ba_ | apply bn_ | apply bd_)) hb); clear hb hbox hg; have hcz30_0 : w29.cell? ⟨gb327, 0, none⟩ = some (.int .i64 0) := (blk_cell BK327.out 0).trans rfl; have hcz30_1 : w29.cell? ⟨gb327, 1, none⟩ = some (.slice none 0 0) := (blk_cell BK327.out 1).trans rfl; have hcz30_2 : w29.cell? ⟨gb327, 2, none⟩ = some (.int .i64 0) := (blk_cell BK327.out 2).trans rfl; have hcz30_3 : w29.cell? ⟨gb327, 3, none⟩ = some (.int .i64 0) := (blk_cell BK327.out 3).trans rfl; have hfz30_0 := blk_frozen BK327.out 0; have hfz30_1 := blk_frozen BK327.out 1; have hfz30_2 := blk_frozen BK327.out 2; have hfz30_3 := blk_frozen BK327.out 3; obtain ⟨Ao31, co31, eo31⟩ := Kd.R_slice HO_12.out; subst eo31) | (go_at_call 95; (with_reducible refine (spec_used.calls kj9 _ _ l0 _ _ x12_1 ((rd_T41 l0 (rd l3 x13_1)).f2) t328 _ ?side1 ?side2 ?side3 ?side4 A18.out).mono ?_); (case side1 => exact Kd.C_below HR0.out (by with_reducible repeat (first | exact HB.out | apply ba_ | apply bn_ | apply bd_ | refine below_set ?_ GE327.out))); (case side2 => exact HC0.out); (case side3 => refine (Kd.R_reads' (e := 3) (base := w.heap.size) (ok := fun k_ => some k_ ≠ (u11 : Value).ownBlock) (n := x12_1.length) (c := co31) ?_).2.2; exact (by (with_reducible repeat (first | apply Ra_ | apply Rn_ | apply Rd_)); exact (Kd.R_mono (Kd.R_far (p := ⟨gb327, 3, none⟩) (Kd.R_far (p := ⟨gb327, 2, none⟩) (Kd.R_far (p := ⟨gb327, 1, none⟩) (Kd.R_far (p := ⟨gb327, 0, none⟩) (Kd.R_types HO_12.out BK327.out (by decide)) (fun _ hk => hk.2) (.int .i64 ((rd_T41 l0 (rd l3 x13_1)).f0))) (fun _ hk => hk.2) (.slice A326_1 ((rd_T41 l0 (rd l3 x13_1)).f1).length c326_1)) (fun _ hk => hk.2) (.int .i64 ((rd_T41 l0 (rd l3 x13_1)).f2))) (fun _ hk => hk.2) (.int .i64 ((rd_T41 l0 (rd l3 x13_1)).f3))) (fun _ h_ => h_.1)))); (case side4 => exact (Kd.R_reads' HO_12.out).2.1); rintro e w' ⟨rfl, ⟨nd, rfl⟩⟩; (try first | exact ⟨rfl, _, World.drewN_drewN _ _ _⟩ | exact ⟨rfl, _, Eq.trans (World.drewN_drewN _ _ _) (congrArg (World.drewN _) (Nat.add_assoc _ _ _))⟩); have p329 : 0 ≤ (((rd_T41 l0 (rd l3 x13_1)).f2) : Int) := od_ (by with_reducible assumption); have q329 : ((rd_T41 l0 (rd l3 x13_1)).f2) < (l1.length : Int) := od_ (by with_reducible assumption); obtain ⟨ad329, e329, hx329_0⟩ := Kd.at_int HR1.out ((rd_T41 l0 (rd l3 x13_1)).f2) p329 q329; cases e329; have hn329_0 : ad329.block ≠ gb327 := Nat.ne_of_lt (Nat.lt_of_lt_of_le (by have := World.block_lt_of_cell? _ _ hx329_0; first | rwa [add_block] at this | exact this) GW327.out); have hn329_1 : ad329.block ≠ gb327 := Nat.ne_of_lt (Nat.lt_of_lt_of_le (by have := World.block_lt_of_cell? _ _ hx329_0; first | rwa [add_block] at this | exact this) GW327.out); have hn329_2 : ad329.block ≠ gb327 := Nat.ne_of_lt (Nat.lt_of_lt_of_le (by have := World.block_lt_of_cell? _ _ hx329_0; first | rwa [add_block] at this | exact this) GW327.out); have hn329_3 : ad329.block ≠ gb327 := Nat.ne_of_lt (Nat.lt_of_lt_of_le (by have := World.block_lt_of_cell? _ _ hx329_0; first | rwa [add_block] at this | exact this) GW327.out); replace hx329_0 := (HB.out.cell (World.block_lt_of_cell? w _ hx329_0)).trans hx329_0; replace hx329_0 := (cell_far (p := ⟨gb327, 0, none⟩) (by first | (rw [add_block]; exact hn329_0) | (show (Addr.add _ _).block ≠ _; rw [add_block]; exact hn329_0) | exact hn329_0) (.int .i64 ((rd_T41 l0 (rd l3 x13_1)).f0))).trans hx329_0; replace hx329_0 := (cell_far (p := ⟨gb327, 1, none⟩) (by first | (rw [add_block]; exact hn329_1) | (show (Addr.add _ _).block ≠ _; rw [add_block]; exact hn329_1) | exact hn329_1) (.slice A326_1 ((rd_T41 l0 (rd l3 x13_1)).f1).length c326_1)).trans hx329_0; replace hx329_0 := (cell_far (p := ⟨gb327, 2, none⟩) (by first | (rw [add_block]; exact hn329_2) | (show (Addr.add _ _).block ≠ _; rw [add_block]; exact hn329_2) | exact hn329_2) (.int .i64 ((rd_T41 l0 (rd l3 x13_1)).f2))).trans hx329_0; replace hx329_0 := (cell_far (p := ⟨gb327, 3, none⟩) (by first | (rw [add_block]; exact hn329_3) | (show (Addr.add _ _).block ≠ _; rw [add_block]; exact hn329_3) | exact hn329_3) (.int .i64 ((rd_T41 l0 (rd l3 x13_1)).f3))).trans hx329_0; (try have hy329_0 := fun (n_ : Nat) => (show ((((((w29.drewN n_).setCell ⟨gb327, 0, none⟩ (.int .i64 ((rd_T41 l0 (rd l3 x13_1)).f0))).setCell ⟨gb327, 1, none⟩ (.slice A326_1 ((rd_T41 l0 (rd l3 x13_1)).f1).length c326_1)).setCell ⟨gb327, 2, none⟩ (.int .i64 ((rd_T41 l0 (rd l3 x13_1)).f2))).setCell ⟨gb327, 3, none⟩ (.int .i64 ((rd_T41 l0 (rd l3 x13_1)).f3)))).cell? _ = some _ from hx329_0)); clear hn329_0; clear hn329_1; clear hn329_2; clear hn329_3; replace p329 := eq_true p329; replace q329 := eq_true q329))
             repeat (go_quiet (first | ((with_reducible refine gate_dst (N := 14) rfl ?_); (try (refine gate_guard (by rfl) ?_; dsimp only)); refine box_event ?hg (N := 14) ?hd (cs := #[.int .i64 0, .slice none 0 0, .int .i64 0, .int .i64 0]) (t := 41) ?hr ?_; (case hd => rfl); (case hg => rfl); (case hr => first | (go_simp; done) | (go_simp; rfl)); intro gb327 hg w29 hbox hb; replace HO_11 := mk0 (Kd.R_below (by (with_reducible repeat (first | apply Ra_ | apply Rn_ | apply Rd_)); exact HO_11.out) hb); replace HO_12 := mk0 (Kd.R_below (by (with_reducible repeat (first | apply Ra_ | apply Rn_ | apply Rd_)); exact HO_12.out) hb); have BK327 := mk0 (hbox); have GW327 := mk0 ((by rw [hg]; exact (below_size (by with_reducible repeat (first | exact HB.out | apply ba_ | apply bn_ | apply bd_))) : w.heap.size ≤ gb327)); have GE327 := mk0 ((by rw [hg]; exact (below_size (by with_reducible repeat (first | exact HB.out | apply ba_ | apply bn_ | apply bd_))) : w.heap.size ≤ gb327)); replace HB := mk0 (below_step (by with_reducible repeat (first | exact HB.out | apply ba_ | apply bn_ | apply bd_)) hb); clear hb hbox hg; have hcz30_0 : w29.cell? ⟨gb327, 0, none⟩ = some (.int .i64 0) := (blk_cell BK327.out 0).trans rfl; have hcz30_1 : w29.cell? ⟨gb327, 1, none⟩ = some (.slice none 0 0) := (blk_cell BK327.out 1).trans rfl; have hcz30_2 : w29.cell? ⟨gb327, 2, none⟩ = some (.int .i64 0) := (blk_cell BK327.out 2).trans rfl; have hcz30_3 : w29.cell? ⟨gb327, 3, none⟩ = some (.int .i64 0) := (blk_cell BK327.out 3).trans rfl; have hfz30_0 := blk_frozen BK327.out 0; have hfz30_1 := blk_frozen BK327.out 1; have hfz30_2 := blk_frozen BK327.out 2; have hfz30_3 := blk_frozen BK327.out 3; obtain ⟨Ao31, co31, eo31⟩ := Kd.R_slice HO_12.out; subst eo31) | (go_at_call 95; (with_reducible refine (spec_used.calls kj9 _ _ l0 _ _ x12_1 ((rd_T41 l0 (rd l3 x13_1)).f2) t328 _ ?side1 ?side2 ?side3 ?side4 A18.out).mono ?_); (case side1 => exact Kd.C_below HR0.out (by with_reducible repeat (first | exact HB.out | apply ba_ | apply bn_ | apply bd_ | refine below_set ?_ GE327.out))); (case side2 => exact HC0.out); (case side3 => refine (Kd.R_reads' (e := 3) (base := w.heap.size) (ok := fun k_ => some k_ ≠ (u11 : Value).ownBlock) (n := x12_1.length) (c := co31) ?_).2.2; exact (by (with_reducible repeat (first | apply Ra_ | apply Rn_ | apply Rd_)); exact (Kd.R_mono (Kd.R_far (p := ⟨gb327, 3, none⟩) (Kd.R_far (p := ⟨gb327, 2, none⟩) (Kd.R_far (p := ⟨gb327, 1, none⟩) (Kd.R_far (p := ⟨gb327, 0, none⟩) (Kd.R_types HO_12.out BK327.out (by decide)) (fun _ hk => hk.2) (.int .i64 ((rd_T41 l0 (rd l3 x13_1)).f0))) (fun _ hk => hk.2) (.slice A326_1 ((rd_T41 l0 (rd l3 x13_1)).f1).length c326_1)) (fun _ hk => hk.2) (.int .i64 ((rd_T41 l0 (rd l3 x13_1)).f2))) (fun _ hk => hk.2) (.int .i64 ((rd_T41 l0 (rd l3 x13_1)).f3))) (fun _ h_ => h_.1)))); (case side4 => exact (Kd.R_reads' HO_12.out).2.1); rintro e w' ⟨rfl, ⟨nd, rfl⟩⟩; (try first | exact ⟨rfl, _, World.drewN_drewN _ _ _⟩ | exact ⟨rfl, _, Eq.trans (World.drewN_drewN _ _ _) (congrArg (World.drewN _) (Nat.add_assoc _ _ _))⟩); have p329 : 0 ≤ (((rd_T41 l0 (rd l3 x13_1)).f2) : Int) := od_ (by with_reducible assumption); have q329 : ((rd_T41 l0 (rd l3 x13_1)).f2) < (l1.length : Int) := od_ (by with_reducible assumption); obtain ⟨ad329, e329, hx329_0⟩ := Kd.at_int HR1.out ((rd_T41 l0 (rd l3 x13_1)).f2) p329 q329; cases e329; have hn329_0 : ad329.block ≠ gb327 := Nat.ne_of_lt (Nat.lt_of_lt_of_le (by have := World.block_lt_of_cell? _ _ hx329_0; first | rwa [add_block] at this | exact this) GW327.out); have hn329_1 : ad329.block ≠ gb327 := Nat.ne_of_lt (Nat.lt_of_lt_of_le (by have := World.block_lt_of_cell? _ _ hx329_0; first | rwa [add_block] at this | exact this) GW327.out); have hn329_2 : ad329.block ≠ gb327 := Nat.ne_of_lt (Nat.lt_of_lt_of_le (by have := World.block_lt_of_cell? _ _ hx329_0; first | rwa [add_block] at this | exact this) GW327.out); have hn329_3 : ad329.block ≠ gb327 := Nat.ne_of_lt (Nat.lt_of_lt_of_le (by have := World.block_lt_of_cell? _ _ hx329_0; first | rwa [add_block] at this | exact this) GW327.out); replace hx329_0 := (HB.out.cell (World.block_lt_of_cell? w _ hx329_0)).trans hx329_0; replace hx329_0 := (cell_far (p := ⟨gb327, 0, none⟩) (by first | (rw [add_block]; exact hn329_0) | (show (Addr.add _ _).block ≠ _; rw [add_block]; exact hn329_0) | exact hn329_0) (.int .i64 ((rd_T41 l0 (rd l3 x13_1)).f0))).trans hx329_0; replace hx329_0 := (cell_far (p := ⟨gb327, 1, none⟩) (by first | (rw [add_block]; exact hn329_1) | (show (Addr.add _ _).block ≠ _; rw [add_block]; exact hn329_1) | exact hn329_1) (.slice A326_1 ((rd_T41 l0 (rd l3 x13_1)).f1).length c326_1)).trans hx329_0; replace hx329_0 := (cell_far (p := ⟨gb327, 2, none⟩) (by first | (rw [add_block]; exact hn329_2) | (show (Addr.add _ _).block ≠ _; rw [add_block]; exact hn329_2) | exact hn329_2) (.int .i64 ((rd_T41 l0 (rd l3 x13_1)).f2))).trans hx329_0; replace hx329_0 := (cell_far (p := ⟨gb327, 3, none⟩) (by first | (rw [add_block]; exact hn329_3) | (show (Addr.add _ _).block ≠ _; rw [add_block]; exact hn329_3) | exact hn329_3) (.int .i64 ((rd_T41 l0 (rd l3 x13_1)).f3))).trans hx329_0; (try have hy329_0 := fun (n_ : Nat) => (show ((((((w29.drewN n_).setCell ⟨gb327, 0, none⟩ (.int .i64 ((rd_T41 l0 (rd l3 x13_1)).f0))).setCell ⟨gb327, 1, none⟩ (.slice A326_1 ((rd_T41 l0 (rd l3 x13_1)).f1).length c326_1)).setCell ⟨gb327, 2, none⟩ (.int .i64 ((rd_T41 l0 (rd l3 x13_1)).f2))).setCell ⟨gb327, 3, none⟩ (.int .i64 ((rd_T41 l0 (rd l3 x13_1)).f3)))).cell? _ = some _ from hx329_0)); clear hn329_0; clear hn329_1; clear hn329_2; clear hn329_3; replace p329 := eq_true p329; replace q329 := eq_true q329)); try go_wp2_with (first | ((with_reducible refine gate_dst (N := 14) rfl ?_); (try (refine gate_guard (by rfl) ?_; dsimp only)); refine box_event ?hg (N := 14) ?hd (cs := #[.int .i64 0, .slice none 0 0, .int .i64 0, .int .i64 0]) (t := 41) ?hr ?_; (case hd => rfl); (case hg => rfl); (case hr => first | (go_simp; done) | (go_simp; rfl)); intro gb327 hg w29 hbox hb; replace HO_11 := mk0 (Kd.R_below (by (with_reducible repeat (first | apply Ra_ | apply Rn_ | apply Rd_)); exact HO_11.out) hb); replace HO_12 := mk0 (Kd.R_below (by (with_reducible repeat (first | apply Ra_ | apply Rn_ | apply Rd_)); exact HO_12.out) hb); have BK327 := mk0 (hbox); have GW327 := mk0 ((by rw [hg]; exact (below_size (by with_reducible repeat (first | exact HB.out | apply ba_ | apply bn_ | apply bd_))) : w.heap.size ≤ gb327)); have GE327 := mk0 ((by rw [hg]; exact (below_size (by with_reducible repeat (first | exact HB.out | apply ba_ | apply bn_ | apply bd_))) : w.heap.size ≤ gb327)); replace HB := mk0 (below_step (by with_reducible repeat (first | exact HB.out | apply ba_ | apply bn_ | apply bd_)) hb); clear hb hbox hg; have hcz30_0 : w29.cell? ⟨gb327, 0, none⟩ = some (.int .i64 0) := (blk_cell BK327.out 0).trans rfl; have hcz30_1 : w29.cell? ⟨gb327, 1, none⟩ = some (.slice none 0 0) := (blk_cell BK327.out 1).trans rfl; have hcz30_2 : w29.cell? ⟨gb327, 2, none⟩ = some (.int .i64 0) := (blk_cell BK327.out 2).trans rfl; have hcz30_3 : w29.cell? ⟨gb327, 3, none⟩ = some (.int .i64 0) := (blk_cell BK327.out 3).trans rfl; have hfz30_0 := blk_frozen BK327.out 0; have hfz30_1 := blk_frozen BK327.out 1; have hfz30_2 := blk_frozen BK327.out 2; have hfz30_3 := blk_frozen BK327.out 3; obtain ⟨Ao31, co31, eo31⟩ := Kd.R_slice HO_12.out; subst eo31) | (go_at_call 95; (with_reducible refine (spec_used.calls kj9 _ _ l0 _ _ x12_1 ((rd_T41 l0 (rd l3 x13_1)).f2) t328 _ ?side1 ?side2 ?side3 ?side4 A18.out).mono ?_); (case side1 => exact Kd.C_below HR0.out (by with_reducible repeat (first | exact HB.out | apply ba_ | apply bn_ | apply bd_ | refine below_set ?_ GE327.out))); (case side2 => exact HC0.out); (case side3 => refine (Kd.R_reads' (e := 3) (base := w.heap.size) (ok := fun k_ => some k_ ≠ (u11 : Value).ownBlock) (n := x12_1.length) (c := co31) ?_).2.2; exact (by (with_reducible repeat (first | apply Ra_ | apply Rn_ | apply Rd_)); exact (Kd.R_mono (Kd.R_far (p := ⟨gb327, 3, none⟩) (Kd.R_far (p := ⟨gb327, 2, none⟩) (Kd.R_far (p := ⟨gb327, 1, none⟩) (Kd.R_far (p := ⟨gb327, 0, none⟩) (Kd.R_types HO_12.out BK327.out (by decide)) (fun _ hk => hk.2) (.int .i64 ((rd_T41 l0 (rd l3 x13_1)).f0))) (fun _ hk => hk.2) (.slice A326_1 ((rd_T41 l0 (rd l3 x13_1)).f1).length c326_1)) (fun _ hk => hk.2) (.int .i64 ((rd_T41 l0 (rd l3 x13_1)).f2))) (fun _ hk => hk.2) (.int .i64 ((rd_T41 l0 (rd l3 x13_1)).f3))) (fun _ h_ => h_.1)))); (case side4 => exact (Kd.R_reads' HO_12.out).2.1); rintro e w' ⟨rfl, ⟨nd, rfl⟩⟩; (try first | exact ⟨rfl, _, World.drewN_drewN _ _ _⟩ | exact ⟨rfl, _, Eq.trans (World.drewN_drewN _ _ _) (congrArg (World.drewN _) (Nat.add_assoc _ _ _))⟩); have p329 : 0 ≤ (((rd_T41 l0 (rd l3 x13_1)).f2) : Int) := od_ (by with_reducible assumption); have q329 : ((rd_T41 l0 (rd l3 x13_1)).f2) < (l1.length : Int) := od_ (by with_reducible assumption); obtain ⟨ad329, e329, hx329_0⟩ := Kd.at_int HR1.out ((rd_T41 l0 (rd l3 x13_1)).f2) p329 q329; cases e329; have hn329_0 : ad329.block ≠ gb327 := Nat.ne_of_lt (Nat.lt_of_lt_of_le (by have := World.block_lt_of_cell? _ _ hx329_0; first | rwa [add_block] at this | exact this) GW327.out); have hn329_1 : ad329.block ≠ gb327 := Nat.ne_of_lt (Nat.lt_of_lt_of_le (by have := World.block_lt_of_cell? _ _ hx329_0; first | rwa [add_block] at this | exact this) GW327.out); have hn329_2 : ad329.block ≠ gb327 := Nat.ne_of_lt (Nat.lt_of_lt_of_le (by have := World.block_lt_of_cell? _ _ hx329_0; first | rwa [add_block] at this | exact this) GW327.out); have hn329_3 : ad329.block ≠ gb327 := Nat.ne_of_lt (Nat.lt_of_lt_of_le (by have := World.block_lt_of_cell? _ _ hx329_0; first | rwa [add_block] at this | exact this) GW327.out); replace hx329_0 := (HB.out.cell (World.block_lt_of_cell? w _ hx329_0)).trans hx329_0; replace hx329_0 := (cell_far (p := ⟨gb327, 0, none⟩) (by first | (rw [add_block]; exact hn329_0) | (show (Addr.add _ _).block ≠ _; rw [add_block]; exact hn329_0) | exact hn329_0) (.int .i64 ((rd_T41 l0 (rd l3 x13_1)).f0))).trans hx329_0; replace hx329_0 := (cell_far (p := ⟨gb327, 1, none⟩) (by first | (rw [add_block]; exact hn329_1) | (show (Addr.add _ _).block ≠ _; rw [add_block]; exact hn329_1) | exact hn329_1) (.slice A326_1 ((rd_T41 l0 (rd l3 x13_1)).f1).length c326_1)).trans hx329_0; replace hx329_0 := (cell_far (p := ⟨gb327, 2, none⟩) (by first | (rw [add_block]; exact hn329_2) | (show (Addr.add _ _).block ≠ _; rw [add_block]; exact hn329_2) | exact hn329_2) (.int .i64 ((rd_T41 l0 (rd l3 x13_1)).f2))).trans hx329_0; replace hx329_0 := (cell_far (p := ⟨gb327, 3, none⟩) (by first | (rw [add_block]; exact hn329_3) | (show (Addr.add _ _).block ≠ _; rw [add_block]; exact hn329_3) | exact hn329_3) (.int .i64 ((rd_T41 l0 (rd l3 x13_1)).f3))).trans hx329_0; (try have hy329_0 := fun (n_ : Nat) => (show ((((((w29.drewN n_).setCell ⟨gb327, 0, none⟩ (.int .i64 ((rd_T41 l0 (rd l3 x13_1)).f0))).setCell ⟨gb327, 1, none⟩ (.slice A326_1 ((rd_T41 l0 (rd l3 x13_1)).f1).length c326_1)).setCell ⟨gb327, 2, none⟩ (.int .i64 ((rd_T41 l0 (rd l3 x13_1)).f2))).setCell ⟨gb327, 3, none⟩ (.int .i64 ((rd_T41 l0 (rd l3 x13_1)).f3)))).cell? _ = some _ from hx329_0)); clear hn329_0; clear hn329_1; clear hn329_2; clear hn329_3; replace p329 := eq_true p329; replace q329 := eq_true q329)))
             go_roundg kj9
             case measure => have := HK1.out; have := HJ9.out; omega
             case rel => exact ⟨(x11_1), (x12_1), (wrap64 (x13_1 + 1)), (by first | rfl | (simp; done) | (simp [*]; done)), H', ⟨by have := HK1.out; have := HJ9.out; omega⟩, ⟨by (with_reducible repeat (first | apply Ra_ | apply Rn_ | apply Rd_)); exact Kd.R_mono (Kd.R_far (p := ⟨gb327, 3, none⟩) (Kd.R_far (p := ⟨gb327, 2, none⟩) (Kd.R_far (p := ⟨gb327, 1, none⟩) (Kd.R_far (p := ⟨gb327, 0, none⟩) (Kd.R_types HO_11.out BK327.out (by decide)) (fun _ hk => hk.2) (.int .i64 ((rd_T41 l0 (rd l3 x13_1)).f0))) (fun _ hk => hk.2) (.slice A326_1 ((rd_T41 l0 (rd l3 x13_1)).f1).length c326_1)) (fun _ hk => hk.2) (.int .i64 ((rd_T41 l0 (rd l3 x13_1)).f2))) (fun _ hk => hk.2) (.int .i64 ((rd_T41 l0 (rd l3 x13_1)).f3))) (fun _ hk => hk.1)⟩, ⟨by (with_reducible repeat (first | apply Ra_ | apply Rn_ | apply Rd_)); exact Kd.R_mono (Kd.R_far (p := ⟨gb327, 3, none⟩) (Kd.R_far (p := ⟨gb327, 2, none⟩) (Kd.R_far (p := ⟨gb327, 1, none⟩) (Kd.R_far (p := ⟨gb327, 0, none⟩) (Kd.R_types HO_12.out BK327.out (by decide)) (fun _ hk => hk.2) (.int .i64 ((rd_T41 l0 (rd l3 x13_1)).f0))) (fun _ hk => hk.2) (.slice A326_1 ((rd_T41 l0 (rd l3 x13_1)).f1).length c326_1)) (fun _ hk => hk.2) (.int .i64 ((rd_T41 l0 (rd l3 x13_1)).f2))) (fun _ hk => hk.2) (.int .i64 ((rd_T41 l0 (rd l3 x13_1)).f3))) (fun _ hk => hk.1)⟩, ⟨by with_reducible repeat (first | exact HB.out | apply ba_ | apply bn_ | apply bd_ | refine below_set ?_ GE327.out)⟩⟩
           ·
            rw [if_neg c20] at H
            exact nn_ H
          ·
           rw [if_neg c19] at H
           exact nn_ H
         ·
          rw [if_neg c17] at H
          exact nn_ H
        ·
         rw [if_neg c16] at H
         exact nn_ H
       ·
        rw [if_neg c15] at H
        exact nn_ H
      ·
       rw [if_neg c14] at H
       exact nn_ H
     ·
      replace c13 := Bool.eq_false_iff.mpr c13
      subst c13
      rw [if_neg (show ¬ (false = true) by decide)] at H
      obtain rfl := Option.some.inj H
      go_wp2
      repeat (go_quiet (fail); try go_wp2)
      go_ret
      exact ⟨_, by first | rfl | (simp [errW_none, errW_some] <;> rfl) | (simp [*, errW_none, errW_some] <;> rfl), by (with_reducible repeat (first | apply Ra_ | apply Rn_ | apply Rd_)); exact Kd.R_mono HO_11.out (fun _ hk => trivial), by with_reducible repeat (first | exact HB.out | apply ba_ | apply bn_ | apply bd_)⟩
/-! spec_plan -/
mutual
def spec_plan.l0 : Nat → List (S41) → List Int → Int → List Int → Int → Option (List Int)
 | 0, _, _, _, _, _ => none
 | k + 1, x0, x1, x2, x7, x8 => if x8 < (x7.length : Int) then (if 0 ≤ x8 then (spec_plan.l0 k x0 x1 x2 (x7.set (x8 : Int).toNat 200) (wrap64 (x8 + 1))) else (none)) else (spec_plan.l1 k x0 x1 x2 x7 0)
def spec_plan.l1 : Nat → List (S41) → List Int → Int → List Int → Int → Option (List Int)
 | 0, _, _, _, _, _ => none
 | k + 1, x0, x1, x2, x7, x9 => if x9 < 200 then (spec_plan.l2 k x0 x1 x2 x7 x9 (([] : List Int)) 0) else (some x7)
def spec_plan.l2 : Nat → List (S41) → List Int → Int → List Int → Int → List Int → Int → Option (List Int)
 | 0, _, _, _, _, _, _, _ => none
 | k + 1, x0, x1, x2, x7, x9, x10, x11 => if x11 < (x0.length : Int) then (if 0 ≤ x11 then (if x11 < (x7.length : Int) then (if (wrap64 ((rd x7 x11) + ((rd_T41 x0 x11).f0))) ≤ x9 then (if x10.length < 17592186044416 then (spec_plan.l2 k x0 x1 x2 x7 x9 (x10 ++ [x11]) (wrap64 (x11 + 1))) else (none)) else (spec_plan.l2 k x0 x1 x2 x7 x9 x10 (wrap64 (x11 + 1)))) else (none)) else (none)) else ((spec_ready.f k x0 x10).bind fun t353 => (spec_plan.l3 k x0 x1 x2 x7 x9 (([] : List Int)) t353 0))
def spec_plan.l3 : Nat → List (S41) → List Int → Int → List Int → Int → List Int → List Int → Int → Option (List Int)
 | 0, _, _, _, _, _, _, _, _ => none
 | k + 1, x0, x1, x2, x7, x9, x12, x13, x14 => if x14 < (x13.length : Int) then (if 0 ≤ x14 then (if 0 ≤ (rd x13 x14) then (if (rd x13 x14) < (x7.length : Int) then (if (rd x7 (rd x13 x14)) = 200 then (if x12.length < 17592186044416 then (spec_plan.l3 k x0 x1 x2 x7 x9 (x12 ++ [rd x13 x14]) x13 (wrap64 (x14 + 1))) else (none)) else (spec_plan.l3 k x0 x1 x2 x7 x9 x12 x13 (wrap64 (x14 + 1)))) else (none)) else (none)) else (none)) else ((spec_runningAt.f k x0 x7 x9).bind fun t362 => ((spec_byTail.f k x0 x12).bind fun t365 => ((spec_admit.f k x0 x1 t362 t365 x2).bind fun t368 => (spec_plan.l4 k x0 x1 x2 x7 x9 t368 0))))
def spec_plan.l4 : Nat → List (S41) → List Int → Int → List Int → Int → List Int → Int → Option (List Int)
 | 0, _, _, _, _, _, _, _ => none
 | k + 1, x0, x1, x2, x7, x9, x15, x16 => if x16 < (x15.length : Int) then (if 0 ≤ x16 then (if 0 ≤ (rd x15 x16) then (if (rd x15 x16) < (x7.length : Int) then (spec_plan.l4 k x0 x1 x2 (x7.set ((rd x15 x16) : Int).toNat x9) x9 x15 (wrap64 (x16 + 1))) else (none)) else (none)) else (none)) else (spec_plan.l1 k x0 x1 x2 x7 (wrap64 (x9 + 1)))
end
def spec_plan.f (k : Nat) (l0 : List (S41)) (l1 : List Int) (a2 : Int) : Option (List Int) := if 0 ≤ (l0.length : Int) then (if ((l0.length : Int) : Int).toNat ≤ 35184372088832 then (spec_plan.l0 k l0 l1 a2 (List.replicate ((l0.length : Int) : Int).toNat 0) 0) else (none)) else (none)
set_option maxHeartbeats 8000000 in
set_option maxRecDepth 100000 in
theorem spec_plan.calls (k : Nat) (A0 : Option Addr) (c0 : Nat) (l0 : List (S41)) (A1 : Option Addr) (c1 : Nat) (l1 : List Int) (a2 : Int) (r : List Int) (w : World) (hr0 : Kd.C k41 w A0 l0.length l0) (hc0 : l0.length ≤ c0) (hr1 : Kd.C (Kd.int .i64) w A1 l1.length l1) (hc1 : l1.length ≤ c1) (h : spec_plan.f k l0 l1 a2 = some r) :
  Calls Tryd.prog 90 #[.slice A0 l0.length c0, .slice A1 l1.length c1, .int .i64 a2] w fun e w' => ∃ v0_ : Value, e = .returned (v0_) ∧ Kd.R (Kd.int .i64) 3 w' w.heap.size (fun _ => True) v0_ r ∧ Below w.heap.size w w' := by
 have HR0 := mk0 hr0
 have HC0 := mk0 hc0
 clear hr0 hc0
 have HR1 := mk0 hr1
 have HC1 := mk0 hc1
 clear hr1 hc1
 have HB := mk0 (Below.refl w.heap.size w)
 have H : (if 0 ≤ (l0.length : Int) then (if ((l0.length : Int) : Int).toNat ≤ 35184372088832 then (spec_plan.l0 k l0 l1 a2 (List.replicate ((l0.length : Int) : Int).toNat 0) 0) else (none)) else (none)) = some r := h
 clear h
 by_cases c4 : 0 ≤ (l0.length : Int)
 ·
  rw [if_pos c4] at H
  have c4b0 := eq_true c4
  have c4b1 : decide (0 ≤ (l0.length : Int)) = true := decide_eq_true c4
  clear c4
  by_cases c5 : ((l0.length : Int) : Int).toNat ≤ 35184372088832
  ·
   rw [if_pos c5] at H
   have c5b0 := eq_true c5
   have c5b1 : decide (((l0.length : Int) : Int).toNat ≤ 35184372088832) = true := decide_eq_true c5
   clear c5
   obtain ⟨y338, hy338⟩ : ∃ y_ : List Int, y_ = (List.replicate ((l0.length : Int) : Int).toNat 0) := ⟨_, rfl⟩
   replace H : (spec_plan.l0 k l0 l1 a2 y338 0) = some r := by first | (rw [hy338]; with_reducible exact H) | (rw [hy338]; exact (Option.bind_some _ _).symm.trans H) | (rw [hy338]; exact H) | exact H
   have Ny338 := mk0 hy338
   clear hy338
   have H' := mk0 H
   clear H
   go_enter Tryd.func90, Tryd.ntmps90
   go_wp2_with (first | ((with_reducible refine gate_dst (N := 19) rfl ?_); refine Kd.R_make (Kd.int .i64) _ 3 rfl (N := 19) rfl 31 _ _ rfl (l0.length : Int) rfl rfl Tryd.underlying31 (.int .i64 0) 8 info3 rfl (by decide) (by omega) 0 (ok := fun _ => True) (okp := fun _ => True) rfl (fun _ hk => hk) trivial (od_ (by with_reducible assumption)) (Nat.le_trans (Nat.mul_le_mul_right _ (od_ (by with_reducible assumption) : (l0.length : Int).toNat ≤ 35184372088832)) (by omega)) (Below.refl _ _) (Nat.le_refl _) ?_; intro v339 w6 ho7 hb hg_ hnew_; clear hg_ hnew_; (first | rw [← Ny338.out] at ho7 | (simp only [Int.reduceToNat] at ho7; rw [← Ny338.out] at ho7)); have HO340 := mk0 (Kd.R_lower ho7 (below_size (by with_reducible repeat (first | exact HB.out | apply ba_ | apply bn_ | apply bd_)))); replace HB := mk0 (below_step (by with_reducible repeat (first | exact HB.out | apply ba_ | apply bn_ | apply bd_)) hb); clear hb ho7))
   repeat (go_quiet (first | ((with_reducible refine gate_dst (N := 19) rfl ?_); refine Kd.R_make (Kd.int .i64) _ 3 rfl (N := 19) rfl 31 _ _ rfl (l0.length : Int) rfl rfl Tryd.underlying31 (.int .i64 0) 8 info3 rfl (by decide) (by omega) 0 (ok := fun _ => True) (okp := fun _ => True) rfl (fun _ hk => hk) trivial (od_ (by with_reducible assumption)) (Nat.le_trans (Nat.mul_le_mul_right _ (od_ (by with_reducible assumption) : (l0.length : Int).toNat ≤ 35184372088832)) (by omega)) (Below.refl _ _) (Nat.le_refl _) ?_; intro v339 w6 ho7 hb hg_ hnew_; clear hg_ hnew_; (first | rw [← Ny338.out] at ho7 | (simp only [Int.reduceToNat] at ho7; rw [← Ny338.out] at ho7)); have HO340 := mk0 (Kd.R_lower ho7 (below_size (by with_reducible repeat (first | exact HB.out | apply ba_ | apply bn_ | apply bd_)))); replace HB := mk0 (below_step (by with_reducible repeat (first | exact HB.out | apply ba_ | apply bn_ | apply bd_)) hb); clear hb ho7)); try go_wp2_with (first | ((with_reducible refine gate_dst (N := 19) rfl ?_); refine Kd.R_make (Kd.int .i64) _ 3 rfl (N := 19) rfl 31 _ _ rfl (l0.length : Int) rfl rfl Tryd.underlying31 (.int .i64 0) 8 info3 rfl (by decide) (by omega) 0 (ok := fun _ => True) (okp := fun _ => True) rfl (fun _ hk => hk) trivial (od_ (by with_reducible assumption)) (Nat.le_trans (Nat.mul_le_mul_right _ (od_ (by with_reducible assumption) : (l0.length : Int).toNat ≤ 35184372088832)) (by omega)) (Below.refl _ _) (Nat.le_refl _) ?_; intro v339 w6 ho7 hb hg_ hnew_; clear hg_ hnew_; (first | rw [← Ny338.out] at ho7 | (simp only [Int.reduceToNat] at ho7; rw [← Ny338.out] at ho7)); have HO340 := mk0 (Kd.R_lower ho7 (below_size (by with_reducible repeat (first | exact HB.out | apply ba_ | apply bn_ | apply bd_)))); replace HB := mk0 (below_step (by with_reducible repeat (first | exact HB.out | apply ba_ | apply bn_ | apply bd_)) hb); clear hb ho7)))
   go_loopg [8] k (fun kq v8 w' => ∃ (x7_1 : List Int) (x8_1 : Int), v8 = .int .i64 x8_1 ∧ Aside0 (spec_plan.l0 kq l0 l1 a2 x7_1 x8_1 = some r) ∧ Aside0 (kq ≤ k) ∧ Aside0 (Kd.R (Kd.int .i64) 3 w' w.heap.size (fun _ => True) v339 x7_1) ∧ Aside0 (Below w.heap.size w w'))
   case atStart => exact ⟨(y338), (0), (by first | rfl | (simp; done) | (simp [*]; done)), H', ⟨Nat.le_refl _⟩, ⟨by (with_reducible repeat (first | apply Ra_ | apply Rn_ | apply Rd_)); exact HO340.out⟩, ⟨by with_reducible repeat (first | exact HB.out | apply ba_ | apply bn_ | apply bd_)⟩⟩
   case round =>
    clear H'
    try clear c1
    try clear p2
    try clear c4
    try clear c4b0
    try clear c4b1
    try clear c5
    try clear c5b0
    try clear c5b1
    obtain ⟨x7_1, x8_1, rfl, HA, HK1, HO_7, HB⟩ := hrel
    cases gk with
    | zero => exact absurd HA.out (by simp [spec_plan.l0])
    | succ k1 =>
     have H := HA.out
     clear HA
     simp only [spec_plan.l0] at H
     by_cases c8 : x8_1 < (x7_1.length : Int)
     ·
      rw [if_pos c8] at H
      have c8b0 : decide (x8_1 < (x7_1.length : Int)) = true := decide_eq_true c8
      clear c8
      by_cases c9 : 0 ≤ x8_1
      ·
       rw [if_pos c9] at H
       have c9b0 : decide (0 ≤ x8_1) = true := decide_eq_true c9
       clear c9
       obtain ⟨y341, hy341⟩ : ∃ y_ : List Int, y_ = (x7_1.set (x8_1 : Int).toNat 200) := ⟨_, rfl⟩
       replace H : (spec_plan.l0 k1 l0 l1 a2 y341 (wrap64 (x8_1 + 1))) = some r := by first | (rw [hy341]; with_reducible exact H) | (rw [hy341]; exact (Option.bind_some _ _).symm.trans H) | (rw [hy341]; exact H) | exact H
       have Ny341 := mk0 hy341
       clear hy341
       have H' := mk0 H
       clear H
       obtain ⟨Ao11, co11, eo11⟩ := Kd.R_slice HO_7.out
       subst eo11
       have p10 : 0 ≤ (x8_1 : Int) := od_ (by with_reducible assumption)
       have q10 : (x8_1 : Int) < ((x7_1.length : Int) : Int) := od_ (by with_reducible assumption)
       obtain ⟨go10, co10, eo10, gb10, gl10, cl10, HG10⟩ := Kd.R_form HO_7.out (by omega)
       (first | cases eo10 | (injection eo10 with ea_ en_ ec_; (first | subst ea_ | (injection ea_ with ea_; subst ea_)); subst ec_; clear en_))
       have GB10 := mk0 gb10
       have GG10 := mk0 HG10
       clear gb10 gl10 HG10
       obtain ⟨hx10_0, hf10_0⟩ := Kd.R_celln 0 HO_7.out (x8_1 : Int) p10 q10
       replace p10 := eq_true p10
       replace q10 := eq_true q10
       have HP12 := Kd.R_putg HO_7.out (x8_1 : Int) 200
       go_wp2_with (first | ((with_reducible refine gate_store (t := 3) (p := 28) rfl ?_); (try (rw [drewN_self wr]; generalize hq_ : World.drewN wr _ = wr; replace HO_7 := mk0 (Kd.R_at hq_ HO_7.out); replace HB := mk0 (below_at hq_ HB.out); clear hq_; (try (have HP12 := Kd.R_putg HO_7.out (x8_1 : Int) 200)))); refine store_event (t := 3) (p := 28) (v := ?vo_w13) (w1 := (wr.setCell ⟨go10, (x8_1 : Int).toNat, none⟩ (.int .i64 200))) ?hg ?ho ?hn ?hr ?_; (case ho => rfl); (case hg => rfl); (case hn => rfl); (case hr => first | (go_simp; done) | (go_simp; rfl)); intro w13 hw; have hg : wr.grownBy w13 (some go10) := (by rw [hw]; exact HP12.2); have hp_ : Kd.R (Kd.int .i64) 3 w13 w.heap.size (fun _ => True) (.slice (some ⟨go10, 0, none⟩) x7_1.length co11) y341 := (by rw [hw, Ny341.out]; exact HP12.1); clear HP12; replace HO_7 := mk0 (hp_); replace HB := mk0 ((by rw [hw]; exact below_set (HB.out) GB10.out : Below w.heap.size w w13)); clear hg hw hp_))
       repeat (go_quiet (first | ((with_reducible refine gate_store (t := 3) (p := 28) rfl ?_); (try (rw [drewN_self wr]; generalize hq_ : World.drewN wr _ = wr; replace HO_7 := mk0 (Kd.R_at hq_ HO_7.out); replace HB := mk0 (below_at hq_ HB.out); clear hq_; (try (have HP12 := Kd.R_putg HO_7.out (x8_1 : Int) 200)))); refine store_event (t := 3) (p := 28) (v := ?vo_w13) (w1 := (wr.setCell ⟨go10, (x8_1 : Int).toNat, none⟩ (.int .i64 200))) ?hg ?ho ?hn ?hr ?_; (case ho => rfl); (case hg => rfl); (case hn => rfl); (case hr => first | (go_simp; done) | (go_simp; rfl)); intro w13 hw; have hg : wr.grownBy w13 (some go10) := (by rw [hw]; exact HP12.2); have hp_ : Kd.R (Kd.int .i64) 3 w13 w.heap.size (fun _ => True) (.slice (some ⟨go10, 0, none⟩) x7_1.length co11) y341 := (by rw [hw, Ny341.out]; exact HP12.1); clear HP12; replace HO_7 := mk0 (hp_); replace HB := mk0 ((by rw [hw]; exact below_set (HB.out) GB10.out : Below w.heap.size w w13)); clear hg hw hp_)); try go_wp2_with (first | ((with_reducible refine gate_store (t := 3) (p := 28) rfl ?_); (try (rw [drewN_self wr]; generalize hq_ : World.drewN wr _ = wr; replace HO_7 := mk0 (Kd.R_at hq_ HO_7.out); replace HB := mk0 (below_at hq_ HB.out); clear hq_; (try (have HP12 := Kd.R_putg HO_7.out (x8_1 : Int) 200)))); refine store_event (t := 3) (p := 28) (v := ?vo_w13) (w1 := (wr.setCell ⟨go10, (x8_1 : Int).toNat, none⟩ (.int .i64 200))) ?hg ?ho ?hn ?hr ?_; (case ho => rfl); (case hg => rfl); (case hn => rfl); (case hr => first | (go_simp; done) | (go_simp; rfl)); intro w13 hw; have hg : wr.grownBy w13 (some go10) := (by rw [hw]; exact HP12.2); have hp_ : Kd.R (Kd.int .i64) 3 w13 w.heap.size (fun _ => True) (.slice (some ⟨go10, 0, none⟩) x7_1.length co11) y341 := (by rw [hw, Ny341.out]; exact HP12.1); clear HP12; replace HO_7 := mk0 (hp_); replace HB := mk0 ((by rw [hw]; exact below_set (HB.out) GB10.out : Below w.heap.size w w13)); clear hg hw hp_)))
       go_roundg k1
       case measure => have := HK1.out; omega
       case rel => exact ⟨(y341), (wrap64 (x8_1 + 1)), (by first | rfl | (simp; done) | (simp [*]; done)), H', ⟨by have := HK1.out; omega⟩, ⟨by (with_reducible repeat (first | apply Ra_ | apply Rn_ | apply Rd_)); exact HO_7.out⟩, ⟨by with_reducible repeat (first | exact HB.out | apply ba_ | apply bn_ | apply bd_)⟩⟩
      ·
       rw [if_neg c9] at H
       exact nn_ H
     ·
      rw [if_neg c8] at H
      have c8b0 : decide (x8_1 < (x7_1.length : Int)) = false := decide_eq_false c8
      clear c8
      have H' := mk0 H
      clear H
      obtain ⟨Ao14, co14, eo14⟩ := Kd.R_slice HO_7.out
      subst eo14
      go_wp2
      repeat (go_quiet (fail); try go_wp2)
      go_loopg [9] k1 (fun kq v9 w' => ∃ (x7_2 : List Int) (x9_2 : Int), v9 = .int .i64 x9_2 ∧ Aside0 (spec_plan.l1 kq l0 l1 a2 x7_2 x9_2 = some r) ∧ Aside0 (kq ≤ k1) ∧ Aside0 (Kd.R (Kd.int .i64) 3 w' w.heap.size (fun _ => True) (.slice Ao14 x7_1.length co14) x7_2) ∧ Aside0 (Below w.heap.size w w'))
      case atStart => exact ⟨(x7_1), (0), (by first | rfl | (simp; done) | (simp [*]; done)), H', ⟨Nat.le_refl _⟩, ⟨by (with_reducible repeat (first | apply Ra_ | apply Rn_ | apply Rd_)); exact HO_7.out⟩, ⟨by with_reducible repeat (first | exact HB.out | apply ba_ | apply bn_ | apply bd_)⟩⟩
      case round =>
       clear H'
       try clear c1
       try clear p1
       try clear q1
       try clear hx1
       try clear p2
       try clear c4
       try clear c4b0
       try clear c4b1
       try clear c5
       try clear c5b0
       try clear c5b1
       try clear p6
       try clear c8
       try clear c8b0
       try clear c9
       try clear c9b0
       try clear p10
       try clear q10
       try clear hx10
       try clear hf10
       try clear hx10_0
       try clear p10
       try clear p2
       try clear q10
       obtain ⟨x7_2, x9_2, rfl, HA, HK2, HO_7, HB⟩ := hrel
       have hl7_2 := (Kd.R_reads' HO_7.out).1
       rw [hl7_2] at HO_7
       (try simp only [hl7_2])
       cases gk with
       | zero => exact absurd HA.out (by simp [spec_plan.l1])
       | succ k2 =>
        have H := HA.out
        clear HA
        simp only [spec_plan.l1] at H
        by_cases c15 : x9_2 < 200
        ·
         rw [if_pos c15] at H
         have c15b0 : decide (x9_2 < 200) = true := decide_eq_true c15
         clear c15
         obtain ⟨y342, hy342⟩ : ∃ y_ : List Int, y_ = (([] : List Int)) := ⟨_, rfl⟩
         replace H : (spec_plan.l2 k2 l0 l1 a2 x7_2 x9_2 y342 0) = some r := by first | (rw [hy342]; with_reducible exact H) | (rw [hy342]; exact (Option.bind_some _ _).symm.trans H) | (rw [hy342]; exact H) | exact H
         have Ny342 := mk0 hy342
         clear hy342
         have H' := mk0 H
         clear H
         go_wp2_with (first | ((with_reducible refine gate_dst (N := 33) rfl ?_); refine Kd.R_lit (Kd.int .i64) _ 3 ?hg (N := 33) ?hd (xs := ([] : List Int)) (inner := []) (ok := fun _ => True) (okp := fun _ => True) ?hr ?hp (fun _ hk => hk) trivial (Below.refl _ _) (Nat.le_refl _) (by simp) ?_; (case hd => rfl); (case hg => rfl); (case hr => first | (go_simp; done) | (go_simp; rfl)); (case hp => exact (Reps.none _ _)); intro v343 w16 ho17 hb hg_ hnew_; clear hg_ hnew_; (first | rw [← Ny342.out] at ho17 | (simp only [Int.reduceToNat] at ho17; rw [← Ny342.out] at ho17)); have HO344 := mk0 (Kd.R_lower (Kd.R_new' ho17 (Kd.R_lt (by (with_reducible repeat (first | apply Ra_ | apply Rn_ | apply Rd_)); exact HO_7.out))) (below_size (by with_reducible repeat (first | exact HB.out | apply ba_ | apply bn_ | apply bd_)))); replace HO_7 := mk0 (Kd.R_elder' (by (with_reducible repeat (first | apply Ra_ | apply Rn_ | apply Rd_)); exact HO_7.out) (Kd.R_base ho17) hb); replace HB := mk0 (below_step (by with_reducible repeat (first | exact HB.out | apply ba_ | apply bn_ | apply bd_)) hb); clear hb ho17))
         repeat (go_quiet (first | ((with_reducible refine gate_dst (N := 33) rfl ?_); refine Kd.R_lit (Kd.int .i64) _ 3 ?hg (N := 33) ?hd (xs := ([] : List Int)) (inner := []) (ok := fun _ => True) (okp := fun _ => True) ?hr ?hp (fun _ hk => hk) trivial (Below.refl _ _) (Nat.le_refl _) (by simp) ?_; (case hd => rfl); (case hg => rfl); (case hr => first | (go_simp; done) | (go_simp; rfl)); (case hp => exact (Reps.none _ _)); intro v343 w16 ho17 hb hg_ hnew_; clear hg_ hnew_; (first | rw [← Ny342.out] at ho17 | (simp only [Int.reduceToNat] at ho17; rw [← Ny342.out] at ho17)); have HO344 := mk0 (Kd.R_lower (Kd.R_new' ho17 (Kd.R_lt (by (with_reducible repeat (first | apply Ra_ | apply Rn_ | apply Rd_)); exact HO_7.out))) (below_size (by with_reducible repeat (first | exact HB.out | apply ba_ | apply bn_ | apply bd_)))); replace HO_7 := mk0 (Kd.R_elder' (by (with_reducible repeat (first | apply Ra_ | apply Rn_ | apply Rd_)); exact HO_7.out) (Kd.R_base ho17) hb); replace HB := mk0 (below_step (by with_reducible repeat (first | exact HB.out | apply ba_ | apply bn_ | apply bd_)) hb); clear hb ho17)); try go_wp2_with (first | ((with_reducible refine gate_dst (N := 33) rfl ?_); refine Kd.R_lit (Kd.int .i64) _ 3 ?hg (N := 33) ?hd (xs := ([] : List Int)) (inner := []) (ok := fun _ => True) (okp := fun _ => True) ?hr ?hp (fun _ hk => hk) trivial (Below.refl _ _) (Nat.le_refl _) (by simp) ?_; (case hd => rfl); (case hg => rfl); (case hr => first | (go_simp; done) | (go_simp; rfl)); (case hp => exact (Reps.none _ _)); intro v343 w16 ho17 hb hg_ hnew_; clear hg_ hnew_; (first | rw [← Ny342.out] at ho17 | (simp only [Int.reduceToNat] at ho17; rw [← Ny342.out] at ho17)); have HO344 := mk0 (Kd.R_lower (Kd.R_new' ho17 (Kd.R_lt (by (with_reducible repeat (first | apply Ra_ | apply Rn_ | apply Rd_)); exact HO_7.out))) (below_size (by with_reducible repeat (first | exact HB.out | apply ba_ | apply bn_ | apply bd_)))); replace HO_7 := mk0 (Kd.R_elder' (by (with_reducible repeat (first | apply Ra_ | apply Rn_ | apply Rd_)); exact HO_7.out) (Kd.R_base ho17) hb); replace HB := mk0 (below_step (by with_reducible repeat (first | exact HB.out | apply ba_ | apply bn_ | apply bd_)) hb); clear hb ho17)))
         go_loopg [10, 11] k2 (fun kq v10 v11 w' => ∃ (x10_3 : List Int) (x11_3 : Int), v11 = .int .i64 x11_3 ∧ Aside0 (spec_plan.l2 kq l0 l1 a2 x7_2 x9_2 x10_3 x11_3 = some r) ∧ Aside0 (kq ≤ k2) ∧ Aside0 (Kd.R (Kd.int .i64) 3 w' w.heap.size (fun k_ => some k_ ≠ (v10 : Value).ownBlock) (.slice Ao14 x7_2.length co14) x7_2) ∧ Aside0 (Kd.R (Kd.int .i64) 3 w' w.heap.size (fun k_ => some k_ ≠ ((.slice Ao14 x7_2.length co14) : Value).ownBlock) v10 x10_3) ∧ Aside0 (Below w.heap.size w w'))
         case atStart => exact ⟨(y342), (0), (by first | rfl | (simp; done) | (simp [*]; done)), H', ⟨Nat.le_refl _⟩, ⟨by (try simp only [hl7_2]); (with_reducible repeat (first | apply Ra_ | apply Rn_ | apply Rd_)); exact Kd.R_mono HO_7.out (fun _ hk => hk.2)⟩, ⟨by (try simp only [hl7_2]); (with_reducible repeat (first | apply Ra_ | apply Rn_ | apply Rd_)); exact Kd.R_mono HO344.out (fun _ hk => hk.2)⟩, ⟨by with_reducible repeat (first | exact HB.out | apply ba_ | apply bn_ | apply bd_)⟩⟩
         case round =>
          clear H'
          try clear c1
          try clear p1
          try clear q1
          try clear hx1
          try clear p2
          try clear c4
          try clear c4b0
          try clear c4b1
          try clear c5
          try clear c5b0
          try clear c5b1
          try clear p6
          try clear c8
          try clear c8b0
          try clear c9
          try clear c9b0
          try clear p10
          try clear q10
          try clear hx10
          try clear hf10
          try clear c15
          try clear c15b0
          try clear hx10_0
          try clear p1
          try clear p10
          try clear p2
          try clear p6
          try clear q1
          try clear q10
          obtain ⟨x10_3, x11_3, rfl, HA, HK3, HO_7, HO_10, HB⟩ := hrel
          cases gk with
          | zero => exact absurd HA.out (by simp [spec_plan.l2])
          | succ k3 =>
           have H := HA.out
           clear HA
           simp only [spec_plan.l2] at H
           by_cases c18 : x11_3 < (l0.length : Int)
           ·
            rw [if_pos c18] at H
            have c18b0 : decide (x11_3 < (l0.length : Int)) = true := decide_eq_true c18
            clear c18
            by_cases c19 : 0 ≤ x11_3
            ·
             rw [if_pos c19] at H
             have c19b0 : decide (0 ≤ x11_3) = true := decide_eq_true c19
             clear c19
             by_cases c20 : x11_3 < (x7_2.length : Int)
             ·
              rw [if_pos c20] at H
              have c20b0 : decide (x11_3 < (x7_2.length : Int)) = true := decide_eq_true c20
              clear c20
              by_cases c21 : (wrap64 ((rd x7_2 x11_3) + ((rd_T41 l0 x11_3).f0))) ≤ x9_2
              ·
               rw [if_pos c21] at H
               have c21b0 : decide ((wrap64 ((rd x7_2 x11_3) + ((rd_T41 l0 x11_3).f0))) ≤ x9_2) = true := decide_eq_true c21
               clear c21
               by_cases c22 : x10_3.length < 17592186044416
               ·
                rw [if_pos c22] at H
                have LMc22 := mk0 c22
                clear c22
                obtain ⟨y347, hy347⟩ : ∃ y_ : List Int, y_ = (x10_3 ++ [x11_3]) := ⟨_, rfl⟩
                replace H : (spec_plan.l2 k3 l0 l1 a2 x7_2 x9_2 y347 (wrap64 (x11_3 + 1))) = some r := by first | (rw [hy347]; with_reducible exact H) | (rw [hy347]; exact (Option.bind_some _ _).symm.trans H) | (rw [hy347]; exact H) | exact H
                have Ny347 := mk0 hy347
                clear hy347
                have H' := mk0 H
                clear H
                have p345 : 0 ≤ (x11_3 : Int) := od_ (by with_reducible assumption)
                have q345 : x11_3 < (x7_2.length : Int) := od_ (by with_reducible assumption)
                obtain ⟨ad345, e345, hx345_0⟩ := Kd.at_int (Kd.R_reads' HO_7.out).2.2 x11_3 p345 q345
                cases e345
                replace p345 := eq_true p345
                replace q345 := eq_true q345
                have p346 : 0 ≤ (x11_3 : Int) := od_ (by with_reducible assumption)
                have q346 : x11_3 < (l0.length : Int) := od_ (by with_reducible assumption)
                obtain ⟨ad346, A346_1, c346_1, e346, hx346_0, hx346_1, hx346_2, hx346_3, hl346_1, hi346_1⟩ := at_T41 HR0.out x11_3 p346 q346
                cases e346
                replace hx346_0 := (HB.out.cell (World.block_lt_of_cell? w _ hx346_0)).trans hx346_0
                replace hx346_1 := (HB.out.cell (World.block_lt_of_cell? w _ hx346_1)).trans hx346_1
                replace hx346_2 := (HB.out.cell (World.block_lt_of_cell? w _ hx346_2)).trans hx346_2
                replace hx346_3 := (HB.out.cell (World.block_lt_of_cell? w _ hx346_3)).trans hx346_3
                have HR346_1 := mk0 hi346_1
                have HC346_1 := mk0 hl346_1
                clear hi346_1 hl346_1
                replace p346 := eq_true p346
                replace q346 := eq_true q346
                go_wp2_with (first | ((with_reducible refine gate_builtin (b := .append) (xs := #[.tmp 52, .tmp 54]) rfl ?_); at_builtin; refine Kd.R_append (Kd.int .i64) (w0 := w) w.heap.size rfl (.tmp 52) (.tmp 54) 31 3 (.int .i64 0) 8 rfl Tryd.underlying31 info3 rfl (by decide) (by omega) u10 x10_3 x11_3 [.int .i64 x11_3] (fun k_ => some k_ ≠ (.slice (some ad345) x7_2.length co14 : Value).ownBlock) (fun _ => False) rfl rfl ?aP (fun _ hk => hk.elim) ?aF ?aO ?aB ?aS ?aL ?_; (case aP => exact rfl); (case aB => exact (by with_reducible repeat (first | exact HB.out | apply ba_ | apply bn_ | apply bd_))); (case aF => exact (fun k_ hk => Kd.fresh' (Kd.R_lt (by (with_reducible repeat (first | apply Ra_ | apply Rn_ | apply Rd_)); exact HO_7.out)) k_ hk)); (case aO => exact (by (with_reducible repeat (first | apply Ra_ | apply Rn_ | apply Rd_)); exact HO_10.out)); (case aS => exact (below_size (by with_reducible repeat (first | exact HB.out | apply ba_ | apply bn_ | apply bd_)))); (case aL => have := LMc22.out; omega); intro v348 w23 ho hb hg hat; rw [← Ny347.out] at ho; replace HO_7 := mk0 (Kd.R_after (ok := (fun _ => True)) (by (with_reducible repeat (first | apply Ra_ | apply Rn_ | apply Rd_)); exact Kd.R_mono HO_7.out (fun _ hk => ⟨trivial, hk⟩)) hg hat); replace HB := mk0 (hb); have HO349 := mk0 (ho); clear HO_10; clear ho hb hg hat))
                repeat (go_quiet (first | ((with_reducible refine gate_builtin (b := .append) (xs := #[.tmp 52, .tmp 54]) rfl ?_); at_builtin; refine Kd.R_append (Kd.int .i64) (w0 := w) w.heap.size rfl (.tmp 52) (.tmp 54) 31 3 (.int .i64 0) 8 rfl Tryd.underlying31 info3 rfl (by decide) (by omega) u10 x10_3 x11_3 [.int .i64 x11_3] (fun k_ => some k_ ≠ (.slice (some ad345) x7_2.length co14 : Value).ownBlock) (fun _ => False) rfl rfl ?aP (fun _ hk => hk.elim) ?aF ?aO ?aB ?aS ?aL ?_; (case aP => exact rfl); (case aB => exact (by with_reducible repeat (first | exact HB.out | apply ba_ | apply bn_ | apply bd_))); (case aF => exact (fun k_ hk => Kd.fresh' (Kd.R_lt (by (with_reducible repeat (first | apply Ra_ | apply Rn_ | apply Rd_)); exact HO_7.out)) k_ hk)); (case aO => exact (by (with_reducible repeat (first | apply Ra_ | apply Rn_ | apply Rd_)); exact HO_10.out)); (case aS => exact (below_size (by with_reducible repeat (first | exact HB.out | apply ba_ | apply bn_ | apply bd_)))); (case aL => have := LMc22.out; omega); intro v348 w23 ho hb hg hat; rw [← Ny347.out] at ho; replace HO_7 := mk0 (Kd.R_after (ok := (fun _ => True)) (by (with_reducible repeat (first | apply Ra_ | apply Rn_ | apply Rd_)); exact Kd.R_mono HO_7.out (fun _ hk => ⟨trivial, hk⟩)) hg hat); replace HB := mk0 (hb); have HO349 := mk0 (ho); clear HO_10; clear ho hb hg hat)); try go_wp2_with (first | ((with_reducible refine gate_builtin (b := .append) (xs := #[.tmp 52, .tmp 54]) rfl ?_); at_builtin; refine Kd.R_append (Kd.int .i64) (w0 := w) w.heap.size rfl (.tmp 52) (.tmp 54) 31 3 (.int .i64 0) 8 rfl Tryd.underlying31 info3 rfl (by decide) (by omega) u10 x10_3 x11_3 [.int .i64 x11_3] (fun k_ => some k_ ≠ (.slice (some ad345) x7_2.length co14 : Value).ownBlock) (fun _ => False) rfl rfl ?aP (fun _ hk => hk.elim) ?aF ?aO ?aB ?aS ?aL ?_; (case aP => exact rfl); (case aB => exact (by with_reducible repeat (first | exact HB.out | apply ba_ | apply bn_ | apply bd_))); (case aF => exact (fun k_ hk => Kd.fresh' (Kd.R_lt (by (with_reducible repeat (first | apply Ra_ | apply Rn_ | apply Rd_)); exact HO_7.out)) k_ hk)); (case aO => exact (by (with_reducible repeat (first | apply Ra_ | apply Rn_ | apply Rd_)); exact HO_10.out)); (case aS => exact (below_size (by with_reducible repeat (first | exact HB.out | apply ba_ | apply bn_ | apply bd_)))); (case aL => have := LMc22.out; omega); intro v348 w23 ho hb hg hat; rw [← Ny347.out] at ho; replace HO_7 := mk0 (Kd.R_after (ok := (fun _ => True)) (by (with_reducible repeat (first | apply Ra_ | apply Rn_ | apply Rd_)); exact Kd.R_mono HO_7.out (fun _ hk => ⟨trivial, hk⟩)) hg hat); replace HB := mk0 (hb); have HO349 := mk0 (ho); clear HO_10; clear ho hb hg hat)))
                go_roundg k3
                case measure => have := HK1.out; have := HK2.out; have := HK3.out; omega
                case rel => exact ⟨(y347), (wrap64 (x11_3 + 1)), (by first | rfl | (simp; done) | (simp [*]; done)), H', ⟨by have := HK1.out; have := HK2.out; have := HK3.out; omega⟩, ⟨by (try simp only [hl7_2]); (with_reducible repeat (first | apply Ra_ | apply Rn_ | apply Rd_)); exact Kd.R_mono HO_7.out (fun _ hk => hk.2)⟩, ⟨by (try simp only [hl7_2]); (with_reducible repeat (first | apply Ra_ | apply Rn_ | apply Rd_)); exact HO349.out⟩, ⟨by with_reducible repeat (first | exact HB.out | apply ba_ | apply bn_ | apply bd_)⟩⟩
               ·
                rw [if_neg c22] at H
                exact nn_ H
              ·
               rw [if_neg c21] at H
               have c21b0 : decide ((wrap64 ((rd x7_2 x11_3) + ((rd_T41 l0 x11_3).f0))) ≤ x9_2) = false := decide_eq_false c21
               clear c21
               have H' := mk0 H
               clear H
               have p345 : 0 ≤ (x11_3 : Int) := od_ (by with_reducible assumption)
               have q345 : x11_3 < (x7_2.length : Int) := od_ (by with_reducible assumption)
               obtain ⟨ad345, e345, hx345_0⟩ := Kd.at_int (Kd.R_reads' HO_7.out).2.2 x11_3 p345 q345
               cases e345
               replace p345 := eq_true p345
               replace q345 := eq_true q345
               have p346 : 0 ≤ (x11_3 : Int) := od_ (by with_reducible assumption)
               have q346 : x11_3 < (l0.length : Int) := od_ (by with_reducible assumption)
               obtain ⟨ad346, A346_1, c346_1, e346, hx346_0, hx346_1, hx346_2, hx346_3, hl346_1, hi346_1⟩ := at_T41 HR0.out x11_3 p346 q346
               cases e346
               replace hx346_0 := (HB.out.cell (World.block_lt_of_cell? w _ hx346_0)).trans hx346_0
               replace hx346_1 := (HB.out.cell (World.block_lt_of_cell? w _ hx346_1)).trans hx346_1
               replace hx346_2 := (HB.out.cell (World.block_lt_of_cell? w _ hx346_2)).trans hx346_2
               replace hx346_3 := (HB.out.cell (World.block_lt_of_cell? w _ hx346_3)).trans hx346_3
               have HR346_1 := mk0 hi346_1
               have HC346_1 := mk0 hl346_1
               clear hi346_1 hl346_1
               replace p346 := eq_true p346
               replace q346 := eq_true q346
               go_wp2
               repeat (go_quiet (fail); try go_wp2)
               go_roundg k3
               case measure => have := HK1.out; have := HK2.out; have := HK3.out; omega
               case rel => exact ⟨(x10_3), (wrap64 (x11_3 + 1)), (by first | rfl | (simp; done) | (simp [*]; done)), H', ⟨by have := HK1.out; have := HK2.out; have := HK3.out; omega⟩, ⟨by (try simp only [hl7_2]); (with_reducible repeat (first | apply Ra_ | apply Rn_ | apply Rd_)); exact HO_7.out⟩, ⟨by (try simp only [hl7_2]); (with_reducible repeat (first | apply Ra_ | apply Rn_ | apply Rd_)); exact HO_10.out⟩, ⟨by with_reducible repeat (first | exact HB.out | apply ba_ | apply bn_ | apply bd_)⟩⟩
             ·
              rw [if_neg c20] at H
              exact nn_ H
            ·
             rw [if_neg c19] at H
             exact nn_ H
           ·
            rw [if_neg c18] at H
            have c18b0 : decide (x11_3 < (l0.length : Int)) = false := decide_eq_false c18
            clear c18
            obtain ⟨y350, hy350⟩ : ∃ y_ : List Int, y_ = (([] : List Int)) := ⟨_, rfl⟩
            replace H : ((spec_ready.f k3 l0 x10_3).bind fun t353 => (spec_plan.l3 k3 l0 l1 a2 x7_2 x9_2 y350 t353 0)) = some r := by first | (rw [hy350]; with_reducible exact H) | (rw [hy350]; exact (Option.bind_some _ _).symm.trans H) | (rw [hy350]; exact H) | exact H
            have Ny350 := mk0 hy350
            clear hy350
            replace H := bE_ H
            obtain ⟨t353, A240, H⟩ := H
            have A24 := mk0 A240
            clear A240
            have H' := mk0 H
            clear H
            go_wp2_with (first | ((with_reducible refine gate_dst (N := 56) rfl ?_); refine Kd.R_lit (Kd.int .i64) _ 3 ?hg (N := 56) ?hd (xs := ([] : List Int)) (inner := []) (ok := fun _ => True) (okp := fun _ => True) ?hr ?hp (fun _ hk => hk) trivial (Below.refl _ _) (Nat.le_refl _) (by simp) ?_; (case hd => rfl); (case hg => rfl); (case hr => first | (go_simp; done) | (go_simp; rfl)); (case hp => exact (Reps.none _ _)); intro v351 w25 ho26 hb hg_ hnew_; clear hg_ hnew_; (first | rw [← Ny350.out] at ho26 | (simp only [Int.reduceToNat] at ho26; rw [← Ny350.out] at ho26)); have HO352 := mk0 (Kd.R_lower (Kd.R_new' (Kd.R_new' ho26 (Kd.R_lt (by (with_reducible repeat (first | apply Ra_ | apply Rn_ | apply Rd_)); exact HO_7.out))) (Kd.R_lt (by (with_reducible repeat (first | apply Ra_ | apply Rn_ | apply Rd_)); exact HO_10.out))) (below_size (by with_reducible repeat (first | exact HB.out | apply ba_ | apply bn_ | apply bd_)))); replace HO_7 := mk0 (Kd.R_elder' (by (with_reducible repeat (first | apply Ra_ | apply Rn_ | apply Rd_)); exact HO_7.out) (Kd.R_base ho26) hb); replace HO_10 := mk0 (Kd.R_elder' (by (with_reducible repeat (first | apply Ra_ | apply Rn_ | apply Rd_)); exact HO_10.out) (Kd.R_base ho26) hb); replace HB := mk0 (below_step (by with_reducible repeat (first | exact HB.out | apply ba_ | apply bn_ | apply bd_)) hb); clear hb ho26; obtain ⟨Ao27, co27, eo27⟩ := Kd.R_slice HO_10.out; subst eo27) | (go_at_call 38; (with_reducible refine (spec_ready.calls k3 _ _ l0 _ _ x10_3 t353 _ ?side1 ?side2 ?side3 ?side4 A24.out).mono ?_); (case side1 => repeat (first | exact (Kd.C_below HR0.out HB.out) | (with_reducible first | refine Ca_ ?_ _ | refine Cn_ ?_ _ | refine Cd_ ?_))); (case side2 => exact HC0.out); (case side3 => repeat (first | exact (Kd.R_reads' HO_10.out).2.2 | (with_reducible first | refine Ca_ ?_ _ | refine Cn_ ?_ _ | refine Cd_ ?_))); (case side4 => exact (Kd.R_reads' HO_10.out).2.1); rintro e w28 ⟨v354, rfl, ho0, hb⟩; have HO355 := mk0 (Kd.R_lower (Kd.R_new' (Kd.R_new' (Kd.R_new' ho0 (Kd.R_lt (by (with_reducible repeat (first | apply Ra_ | apply Rn_ | apply Rd_)); exact HO_7.out))) (Kd.R_lt (by (with_reducible repeat (first | apply Ra_ | apply Rn_ | apply Rd_)); exact HO_10.out))) (Kd.R_lt (by (with_reducible repeat (first | apply Ra_ | apply Rn_ | apply Rd_)); exact HO352.out))) (below_size (by with_reducible repeat (first | exact HB.out | apply ba_ | apply bn_ | apply bd_)))); replace HO_7 := mk0 (Kd.R_elder' (by (with_reducible repeat (first | apply Ra_ | apply Rn_ | apply Rd_)); exact HO_7.out) (Kd.R_base ho0) hb); replace HO_10 := mk0 (Kd.R_elder' (by (with_reducible repeat (first | apply Ra_ | apply Rn_ | apply Rd_)); exact HO_10.out) (Kd.R_base ho0) hb); replace HO352 := mk0 (Kd.R_elder' (by (with_reducible repeat (first | apply Ra_ | apply Rn_ | apply Rd_)); exact HO352.out) (Kd.R_base ho0) hb); replace HB := mk0 (below_step (by with_reducible repeat (first | exact HB.out | apply ba_ | apply bn_ | apply bd_)) hb); clear hb ho0))
            repeat (go_quiet (first | ((with_reducible refine gate_dst (N := 56) rfl ?_); refine Kd.R_lit (Kd.int .i64) _ 3 ?hg (N := 56) ?hd (xs := ([] : List Int)) (inner := []) (ok := fun _ => True) (okp := fun _ => True) ?hr ?hp (fun _ hk => hk) trivial (Below.refl _ _) (Nat.le_refl _) (by simp) ?_; (case hd => rfl); (case hg => rfl); (case hr => first | (go_simp; done) | (go_simp; rfl)); (case hp => exact (Reps.none _ _)); intro v351 w25 ho26 hb hg_ hnew_; clear hg_ hnew_; (first | rw [← Ny350.out] at ho26 | (simp only [Int.reduceToNat] at ho26; rw [← Ny350.out] at ho26)); have HO352 := mk0 (Kd.R_lower (Kd.R_new' (Kd.R_new' ho26 (Kd.R_lt (by (with_reducible repeat (first | apply Ra_ | apply Rn_ | apply Rd_)); exact HO_7.out))) (Kd.R_lt (by (with_reducible repeat (first | apply Ra_ | apply Rn_ | apply Rd_)); exact HO_10.out))) (below_size (by with_reducible repeat (first | exact HB.out | apply ba_ | apply bn_ | apply bd_)))); replace HO_7 := mk0 (Kd.R_elder' (by (with_reducible repeat (first | apply Ra_ | apply Rn_ | apply Rd_)); exact HO_7.out) (Kd.R_base ho26) hb); replace HO_10 := mk0 (Kd.R_elder' (by (with_reducible repeat (first | apply Ra_ | apply Rn_ | apply Rd_)); exact HO_10.out) (Kd.R_base ho26) hb); replace HB := mk0 (below_step (by with_reducible repeat (first | exact HB.out | apply ba_ | apply bn_ | apply bd_)) hb); clear hb ho26; obtain ⟨Ao27, co27, eo27⟩ := Kd.R_slice HO_10.out; subst eo27) | (go_at_call 38; (with_reducible refine (spec_ready.calls k3 _ _ l0 _ _ x10_3 t353 _ ?side1 ?side2 ?side3 ?side4 A24.out).mono ?_); (case side1 => repeat (first | exact (Kd.C_below HR0.out HB.out) | (with_reducible first | refine Ca_ ?_ _ | refine Cn_ ?_ _ | refine Cd_ ?_))); (case side2 => exact HC0.out); (case side3 => repeat (first | exact (Kd.R_reads' HO_10.out).2.2 | (with_reducible first | refine Ca_ ?_ _ | refine Cn_ ?_ _ | refine Cd_ ?_))); (case side4 => exact (Kd.R_reads' HO_10.out).2.1); rintro e w28 ⟨v354, rfl, ho0, hb⟩; have HO355 := mk0 (Kd.R_lower (Kd.R_new' (Kd.R_new' (Kd.R_new' ho0 (Kd.R_lt (by (with_reducible repeat (first | apply Ra_ | apply Rn_ | apply Rd_)); exact HO_7.out))) (Kd.R_lt (by (with_reducible repeat (first | apply Ra_ | apply Rn_ | apply Rd_)); exact HO_10.out))) (Kd.R_lt (by (with_reducible repeat (first | apply Ra_ | apply Rn_ | apply Rd_)); exact HO352.out))) (below_size (by with_reducible repeat (first | exact HB.out | apply ba_ | apply bn_ | apply bd_)))); replace HO_7 := mk0 (Kd.R_elder' (by (with_reducible repeat (first | apply Ra_ | apply Rn_ | apply Rd_)); exact HO_7.out) (Kd.R_base ho0) hb); replace HO_10 := mk0 (Kd.R_elder' (by (with_reducible repeat (first | apply Ra_ | apply Rn_ | apply Rd_)); exact HO_10.out) (Kd.R_base ho0) hb); replace HO352 := mk0 (Kd.R_elder' (by (with_reducible repeat (first | apply Ra_ | apply Rn_ | apply Rd_)); exact HO352.out) (Kd.R_base ho0) hb); replace HB := mk0 (below_step (by with_reducible repeat (first | exact HB.out | apply ba_ | apply bn_ | apply bd_)) hb); clear hb ho0)); try go_wp2_with (first | ((with_reducible refine gate_dst (N := 56) rfl ?_); refine Kd.R_lit (Kd.int .i64) _ 3 ?hg (N := 56) ?hd (xs := ([] : List Int)) (inner := []) (ok := fun _ => True) (okp := fun _ => True) ?hr ?hp (fun _ hk => hk) trivial (Below.refl _ _) (Nat.le_refl _) (by simp) ?_; (case hd => rfl); (case hg => rfl); (case hr => first | (go_simp; done) | (go_simp; rfl)); (case hp => exact (Reps.none _ _)); intro v351 w25 ho26 hb hg_ hnew_; clear hg_ hnew_; (first | rw [← Ny350.out] at ho26 | (simp only [Int.reduceToNat] at ho26; rw [← Ny350.out] at ho26)); have HO352 := mk0 (Kd.R_lower (Kd.R_new' (Kd.R_new' ho26 (Kd.R_lt (by (with_reducible repeat (first | apply Ra_ | apply Rn_ | apply Rd_)); exact HO_7.out))) (Kd.R_lt (by (with_reducible repeat (first | apply Ra_ | apply Rn_ | apply Rd_)); exact HO_10.out))) (below_size (by with_reducible repeat (first | exact HB.out | apply ba_ | apply bn_ | apply bd_)))); replace HO_7 := mk0 (Kd.R_elder' (by (with_reducible repeat (first | apply Ra_ | apply Rn_ | apply Rd_)); exact HO_7.out) (Kd.R_base ho26) hb); replace HO_10 := mk0 (Kd.R_elder' (by (with_reducible repeat (first | apply Ra_ | apply Rn_ | apply Rd_)); exact HO_10.out) (Kd.R_base ho26) hb); replace HB := mk0 (below_step (by with_reducible repeat (first | exact HB.out | apply ba_ | apply bn_ | apply bd_)) hb); clear hb ho26; obtain ⟨Ao27, co27, eo27⟩ := Kd.R_slice HO_10.out; subst eo27) | (go_at_call 38; (with_reducible refine (spec_ready.calls k3 _ _ l0 _ _ x10_3 t353 _ ?side1 ?side2 ?side3 ?side4 A24.out).mono ?_); (case side1 => repeat (first | exact (Kd.C_below HR0.out HB.out) | (with_reducible first | refine Ca_ ?_ _ | refine Cn_ ?_ _ | refine Cd_ ?_))); (case side2 => exact HC0.out); (case side3 => repeat (first | exact (Kd.R_reads' HO_10.out).2.2 | (with_reducible first | refine Ca_ ?_ _ | refine Cn_ ?_ _ | refine Cd_ ?_))); (case side4 => exact (Kd.R_reads' HO_10.out).2.1); rintro e w28 ⟨v354, rfl, ho0, hb⟩; have HO355 := mk0 (Kd.R_lower (Kd.R_new' (Kd.R_new' (Kd.R_new' ho0 (Kd.R_lt (by (with_reducible repeat (first | apply Ra_ | apply Rn_ | apply Rd_)); exact HO_7.out))) (Kd.R_lt (by (with_reducible repeat (first | apply Ra_ | apply Rn_ | apply Rd_)); exact HO_10.out))) (Kd.R_lt (by (with_reducible repeat (first | apply Ra_ | apply Rn_ | apply Rd_)); exact HO352.out))) (below_size (by with_reducible repeat (first | exact HB.out | apply ba_ | apply bn_ | apply bd_)))); replace HO_7 := mk0 (Kd.R_elder' (by (with_reducible repeat (first | apply Ra_ | apply Rn_ | apply Rd_)); exact HO_7.out) (Kd.R_base ho0) hb); replace HO_10 := mk0 (Kd.R_elder' (by (with_reducible repeat (first | apply Ra_ | apply Rn_ | apply Rd_)); exact HO_10.out) (Kd.R_base ho0) hb); replace HO352 := mk0 (Kd.R_elder' (by (with_reducible repeat (first | apply Ra_ | apply Rn_ | apply Rd_)); exact HO352.out) (Kd.R_base ho0) hb); replace HB := mk0 (below_step (by with_reducible repeat (first | exact HB.out | apply ba_ | apply bn_ | apply bd_)) hb); clear hb ho0)))
            go_loopg [12, 14] k3 (fun kq v12 v14 w' => ∃ (x12_4 : List Int) (x14_4 : Int), v14 = .int .i64 x14_4 ∧ Aside0 (spec_plan.l3 kq l0 l1 a2 x7_2 x9_2 x12_4 t353 x14_4 = some r) ∧ Aside0 (kq ≤ k3) ∧ Aside0 (Kd.R (Kd.int .i64) 3 w' w.heap.size (fun k_ => some k_ ≠ (v12 : Value).ownBlock ∧ some k_ ≠ (v354 : Value).ownBlock) (.slice Ao14 x7_2.length co14) x7_2) ∧ Aside0 (Kd.R (Kd.int .i64) 3 w' w.heap.size (fun k_ => some k_ ≠ ((.slice Ao14 x7_2.length co14) : Value).ownBlock ∧ some k_ ≠ (v354 : Value).ownBlock) v12 x12_4) ∧ Aside0 (Kd.R (Kd.int .i64) 3 w' w.heap.size (fun k_ => some k_ ≠ ((.slice Ao14 x7_2.length co14) : Value).ownBlock ∧ some k_ ≠ (v12 : Value).ownBlock) v354 t353) ∧ Aside0 (Below w.heap.size w w'))
            case atStart => exact ⟨(y350), (0), (by first | rfl | (simp; done) | (simp [*]; done)), H', ⟨Nat.le_refl _⟩, ⟨by (try simp only [hl7_2]); (with_reducible repeat (first | apply Ra_ | apply Rn_ | apply Rd_)); exact Kd.R_mono HO_7.out (fun _ hk => ⟨hk.1.2, hk.2⟩)⟩, ⟨by (try simp only [hl7_2]); (with_reducible repeat (first | apply Ra_ | apply Rn_ | apply Rd_)); exact Kd.R_mono HO352.out (fun _ hk => ⟨hk.1.1.2, hk.2⟩)⟩, ⟨by (try simp only [hl7_2]); (with_reducible repeat (first | apply Ra_ | apply Rn_ | apply Rd_)); exact Kd.R_mono HO355.out (fun _ hk => ⟨hk.1.1.2, hk.2⟩)⟩, ⟨by with_reducible repeat (first | exact HB.out | apply ba_ | apply bn_ | apply bd_)⟩⟩
            case round =>
             clear H'
             try clear c1
             try clear p1
             try clear q1
             try clear hx1
             try clear c2
             try clear p2
             try clear c3
             try clear p3
             try clear q3
             try clear hx3
             try clear c4
             try clear c4b0
             try clear c4b1
             try clear c5
             try clear c5b0
             try clear c5b1
             try clear p6
             try clear c8
             try clear c8b0
             try clear c9
             try clear c9b0
             try clear p10
             try clear q10
             try clear hx10
             try clear hf10
             try clear c15
             try clear c15b0
             try clear c18
             try clear c18b0
             try clear c19
             try clear c19b0
             try clear c20
             try clear c20b0
             try clear c21
             try clear c21b0
             try clear c22
             try clear hx10_0
             try clear hx345_0
             try clear hx346_0
             try clear hx346_1
             try clear hx346_2
             try clear hx346_3
             try clear p1
             try clear p10
             try clear p2
             try clear p345
             try clear p346
             try clear p6
             try clear q1
             try clear q10
             try clear q345
             try clear q346
             obtain ⟨x12_4, x14_4, rfl, HA, HK4, HO_7, HO_12, HO_13, HB⟩ := hrel
             cases gk with
             | zero => exact absurd HA.out (by simp [spec_plan.l3])
             | succ k4 =>
              have H := HA.out
              clear HA
              simp only [spec_plan.l3] at H
              by_cases c29 : x14_4 < (t353.length : Int)
              ·
               rw [if_pos c29] at H
               have c29b0 : decide (x14_4 < (t353.length : Int)) = true := decide_eq_true c29
               clear c29
               by_cases c30 : 0 ≤ x14_4
               ·
                rw [if_pos c30] at H
                have c30b0 : decide (0 ≤ x14_4) = true := decide_eq_true c30
                clear c30
                by_cases c31 : 0 ≤ (rd t353 x14_4)
                ·
                 rw [if_pos c31] at H
                 have c31b0 : decide (0 ≤ (rd t353 x14_4)) = true := decide_eq_true c31
                 clear c31
                 by_cases c32 : (rd t353 x14_4) < (x7_2.length : Int)
                 ·
                  rw [if_pos c32] at H
                  have c32b0 : decide ((rd t353 x14_4) < (x7_2.length : Int)) = true := decide_eq_true c32
                  clear c32
                  by_cases c33 : (rd x7_2 (rd t353 x14_4)) = 200
                  ·
                   rw [if_pos c33] at H
                   have c33b0 : ((rd x7_2 (rd t353 x14_4)) == 200) = true := beq_iff_eq.mpr c33
                   have c33b1 : ((rd x7_2 (rd t353 x14_4)) != 200) = false := bne_eq_false_iff_eq.mpr c33
                   clear c33
                   by_cases c34 : x12_4.length < 17592186044416
                   ·
                    rw [if_pos c34] at H
                    have LMc34 := mk0 c34
                    clear c34
                    obtain ⟨y359, hy359⟩ : ∃ y_ : List Int, y_ = (x12_4 ++ [rd t353 x14_4]) := ⟨_, rfl⟩
                    replace H : (spec_plan.l3 k4 l0 l1 a2 x7_2 x9_2 y359 t353 (wrap64 (x14_4 + 1))) = some r := by first | (rw [hy359]; with_reducible exact H) | (rw [hy359]; exact (Option.bind_some _ _).symm.trans H) | (rw [hy359]; exact H) | exact H
                    have Ny359 := mk0 hy359
                    clear hy359
                    have H' := mk0 H
                    clear H
                    obtain ⟨Ao35, co35, eo35⟩ := Kd.R_slice HO_13.out
                    subst eo35
                    have p356 : 0 ≤ (x14_4 : Int) := od_ (by with_reducible assumption)
                    have q356 : x14_4 < (t353.length : Int) := od_ (by with_reducible assumption)
                    obtain ⟨ad356, e356, hx356_0⟩ := Kd.at_int (Kd.R_reads' HO_13.out).2.2 x14_4 p356 q356
                    cases e356
                    replace p356 := eq_true p356
                    replace q356 := eq_true q356
                    have p357 : 0 ≤ ((rd t353 x14_4) : Int) := od_ (by with_reducible assumption)
                    have q357 : (rd t353 x14_4) < (x7_2.length : Int) := od_ (by with_reducible assumption)
                    obtain ⟨ad357, e357, hx357_0⟩ := Kd.at_int (Kd.R_reads' HO_7.out).2.2 (rd t353 x14_4) p357 q357
                    cases e357
                    replace p357 := eq_true p357
                    replace q357 := eq_true q357
                    have p358 : 0 ≤ (x14_4 : Int) := od_ (by with_reducible assumption)
                    have q358 : x14_4 < (t353.length : Int) := od_ (by with_reducible assumption)
                    obtain ⟨ad358, e358, hx358_0⟩ := Kd.at_int (Kd.R_reads' HO_13.out).2.2 x14_4 p358 q358
                    obtain rfl : ad356 = ad358 := (by injection e358)
                    replace p358 := eq_true p358
                    replace q358 := eq_true q358
                    go_wp2_with (first | ((with_reducible refine gate_builtin (b := .append) (xs := #[.tmp 74, .tmp 79]) rfl ?_); at_builtin; refine Kd.R_append (Kd.int .i64) (w0 := w) w.heap.size rfl (.tmp 74) (.tmp 79) 31 3 (.int .i64 0) 8 rfl Tryd.underlying31 info3 rfl (by decide) (by omega) u12 x12_4 (rd t353 x14_4) [.int .i64 (rd t353 x14_4)] (fun k_ => some k_ ≠ (.slice (some ad357) x7_2.length co14 : Value).ownBlock ∧ some k_ ≠ (.slice (some ad356) t353.length co35 : Value).ownBlock) (fun _ => False) rfl rfl ?aP (fun _ hk => hk.elim) ?aF ?aO ?aB ?aS ?aL ?_; (case aP => exact rfl); (case aB => exact (by with_reducible repeat (first | exact HB.out | apply ba_ | apply bn_ | apply bd_))); (case aF => exact (fun k_ hk => ⟨Kd.fresh' (Kd.R_lt (by (with_reducible repeat (first | apply Ra_ | apply Rn_ | apply Rd_)); exact HO_7.out)) k_ hk, Kd.fresh' (Kd.R_lt (by (with_reducible repeat (first | apply Ra_ | apply Rn_ | apply Rd_)); exact HO_13.out)) k_ hk⟩)); (case aO => exact (by (with_reducible repeat (first | apply Ra_ | apply Rn_ | apply Rd_)); exact HO_12.out)); (case aS => exact (below_size (by with_reducible repeat (first | exact HB.out | apply ba_ | apply bn_ | apply bd_)))); (case aL => have := LMc34.out; omega); intro v360 w36 ho hb hg hat; rw [← Ny359.out] at ho; replace HO_7 := mk0 (Kd.R_after (ok := (fun k_ => some k_ ≠ (.slice (some ad356) t353.length co35 : Value).ownBlock)) (by (with_reducible repeat (first | apply Ra_ | apply Rn_ | apply Rd_)); exact Kd.R_mono HO_7.out (fun _ hk => ⟨hk.2, hk.1⟩)) hg hat); replace HO_13 := mk0 (Kd.R_after (ok := (fun k_ => some k_ ≠ (.slice (some ad357) x7_2.length co14 : Value).ownBlock)) (by (with_reducible repeat (first | apply Ra_ | apply Rn_ | apply Rd_)); exact HO_13.out) hg hat); replace HB := mk0 (hb); have HO361 := mk0 (ho); clear HO_12; clear ho hb hg hat))
                    repeat (go_quiet (first | ((with_reducible refine gate_builtin (b := .append) (xs := #[.tmp 74, .tmp 79]) rfl ?_); at_builtin; refine Kd.R_append (Kd.int .i64) (w0 := w) w.heap.size rfl (.tmp 74) (.tmp 79) 31 3 (.int .i64 0) 8 rfl Tryd.underlying31 info3 rfl (by decide) (by omega) u12 x12_4 (rd t353 x14_4) [.int .i64 (rd t353 x14_4)] (fun k_ => some k_ ≠ (.slice (some ad357) x7_2.length co14 : Value).ownBlock ∧ some k_ ≠ (.slice (some ad356) t353.length co35 : Value).ownBlock) (fun _ => False) rfl rfl ?aP (fun _ hk => hk.elim) ?aF ?aO ?aB ?aS ?aL ?_; (case aP => exact rfl); (case aB => exact (by with_reducible repeat (first | exact HB.out | apply ba_ | apply bn_ | apply bd_))); (case aF => exact (fun k_ hk => ⟨Kd.fresh' (Kd.R_lt (by (with_reducible repeat (first | apply Ra_ | apply Rn_ | apply Rd_)); exact HO_7.out)) k_ hk, Kd.fresh' (Kd.R_lt (by (with_reducible repeat (first | apply Ra_ | apply Rn_ | apply Rd_)); exact HO_13.out)) k_ hk⟩)); (case aO => exact (by (with_reducible repeat (first | apply Ra_ | apply Rn_ | apply Rd_)); exact HO_12.out)); (case aS => exact (below_size (by with_reducible repeat (first | exact HB.out | apply ba_ | apply bn_ | apply bd_)))); (case aL => have := LMc34.out; omega); intro v360 w36 ho hb hg hat; rw [← Ny359.out] at ho; replace HO_7 := mk0 (Kd.R_after (ok := (fun k_ => some k_ ≠ (.slice (some ad356) t353.length co35 : Value).ownBlock)) (by (with_reducible repeat (first | apply Ra_ | apply Rn_ | apply Rd_)); exact Kd.R_mono HO_7.out (fun _ hk => ⟨hk.2, hk.1⟩)) hg hat); replace HO_13 := mk0 (Kd.R_after (ok := (fun k_ => some k_ ≠ (.slice (some ad357) x7_2.length co14 : Value).ownBlock)) (by (with_reducible repeat (first | apply Ra_ | apply Rn_ | apply Rd_)); exact HO_13.out) hg hat); replace HB := mk0 (hb); have HO361 := mk0 (ho); clear HO_12; clear ho hb hg hat)); try go_wp2_with (first | ((with_reducible refine gate_builtin (b := .append) (xs := #[.tmp 74, .tmp 79]) rfl ?_); at_builtin; refine Kd.R_append (Kd.int .i64) (w0 := w) w.heap.size rfl (.tmp 74) (.tmp 79) 31 3 (.int .i64 0) 8 rfl Tryd.underlying31 info3 rfl (by decide) (by omega) u12 x12_4 (rd t353 x14_4) [.int .i64 (rd t353 x14_4)] (fun k_ => some k_ ≠ (.slice (some ad357) x7_2.length co14 : Value).ownBlock ∧ some k_ ≠ (.slice (some ad356) t353.length co35 : Value).ownBlock) (fun _ => False) rfl rfl ?aP (fun _ hk => hk.elim) ?aF ?aO ?aB ?aS ?aL ?_; (case aP => exact rfl); (case aB => exact (by with_reducible repeat (first | exact HB.out | apply ba_ | apply bn_ | apply bd_))); (case aF => exact (fun k_ hk => ⟨Kd.fresh' (Kd.R_lt (by (with_reducible repeat (first | apply Ra_ | apply Rn_ | apply Rd_)); exact HO_7.out)) k_ hk, Kd.fresh' (Kd.R_lt (by (with_reducible repeat (first | apply Ra_ | apply Rn_ | apply Rd_)); exact HO_13.out)) k_ hk⟩)); (case aO => exact (by (with_reducible repeat (first | apply Ra_ | apply Rn_ | apply Rd_)); exact HO_12.out)); (case aS => exact (below_size (by with_reducible repeat (first | exact HB.out | apply ba_ | apply bn_ | apply bd_)))); (case aL => have := LMc34.out; omega); intro v360 w36 ho hb hg hat; rw [← Ny359.out] at ho; replace HO_7 := mk0 (Kd.R_after (ok := (fun k_ => some k_ ≠ (.slice (some ad356) t353.length co35 : Value).ownBlock)) (by (with_reducible repeat (first | apply Ra_ | apply Rn_ | apply Rd_)); exact Kd.R_mono HO_7.out (fun _ hk => ⟨hk.2, hk.1⟩)) hg hat); replace HO_13 := mk0 (Kd.R_after (ok := (fun k_ => some k_ ≠ (.slice (some ad357) x7_2.length co14 : Value).ownBlock)) (by (with_reducible repeat (first | apply Ra_ | apply Rn_ | apply Rd_)); exact HO_13.out) hg hat); replace HB := mk0 (hb); have HO361 := mk0 (ho); clear HO_12; clear ho hb hg hat)))
                    go_roundg k4
                    case measure => have := HK1.out; have := HK2.out; have := HK3.out; have := HK4.out; omega
                    case rel => exact ⟨(y359), (wrap64 (x14_4 + 1)), (by first | rfl | (simp; done) | (simp [*]; done)), H', ⟨by have := HK1.out; have := HK2.out; have := HK3.out; have := HK4.out; omega⟩, ⟨by (try simp only [hl7_2]); (with_reducible repeat (first | apply Ra_ | apply Rn_ | apply Rd_)); exact Kd.R_mono HO_7.out (fun _ hk => ⟨hk.2, hk.1⟩)⟩, ⟨by (try simp only [hl7_2]); (with_reducible repeat (first | apply Ra_ | apply Rn_ | apply Rd_)); exact HO361.out⟩, ⟨by (try simp only [hl7_2]); (with_reducible repeat (first | apply Ra_ | apply Rn_ | apply Rd_)); exact HO_13.out⟩, ⟨by with_reducible repeat (first | exact HB.out | apply ba_ | apply bn_ | apply bd_)⟩⟩
                   ·
                    rw [if_neg c34] at H
                    exact nn_ H
                  ·
                   rw [if_neg c33] at H
                   have c33b0 : ((rd x7_2 (rd t353 x14_4)) == 200) = false := beq_eq_false_iff_ne.mpr c33
                   have c33b1 : ((rd x7_2 (rd t353 x14_4)) != 200) = true := bne_iff_ne.mpr c33
                   have H' := mk0 H
                   clear H
                   obtain ⟨Ao37, co37, eo37⟩ := Kd.R_slice HO_13.out
                   subst eo37
                   have p356 : 0 ≤ (x14_4 : Int) := od_ (by with_reducible assumption)
                   have q356 : x14_4 < (t353.length : Int) := od_ (by with_reducible assumption)
                   obtain ⟨ad356, e356, hx356_0⟩ := Kd.at_int (Kd.R_reads' HO_13.out).2.2 x14_4 p356 q356
                   cases e356
                   replace p356 := eq_true p356
                   replace q356 := eq_true q356
                   have p357 : 0 ≤ ((rd t353 x14_4) : Int) := od_ (by with_reducible assumption)
                   have q357 : (rd t353 x14_4) < (x7_2.length : Int) := od_ (by with_reducible assumption)
                   obtain ⟨ad357, e357, hx357_0⟩ := Kd.at_int (Kd.R_reads' HO_7.out).2.2 (rd t353 x14_4) p357 q357
                   cases e357
                   replace p357 := eq_true p357
                   replace q357 := eq_true q357
                   go_wp2
                   repeat (go_quiet (fail); try go_wp2)
                   go_roundg k4
                   case measure => have := HK1.out; have := HK2.out; have := HK3.out; have := HK4.out; omega
                   case rel => exact ⟨(x12_4), (wrap64 (x14_4 + 1)), (by first | rfl | (simp; done) | (simp [*]; done)), H', ⟨by have := HK1.out; have := HK2.out; have := HK3.out; have := HK4.out; omega⟩, ⟨by (try simp only [hl7_2]); (with_reducible repeat (first | apply Ra_ | apply Rn_ | apply Rd_)); exact HO_7.out⟩, ⟨by (try simp only [hl7_2]); (with_reducible repeat (first | apply Ra_ | apply Rn_ | apply Rd_)); exact HO_12.out⟩, ⟨by (try simp only [hl7_2]); (with_reducible repeat (first | apply Ra_ | apply Rn_ | apply Rd_)); exact HO_13.out⟩, ⟨by with_reducible repeat (first | exact HB.out | apply ba_ | apply bn_ | apply bd_)⟩⟩
                 ·
                  rw [if_neg c32] at H
                  exact nn_ H
                ·
                 rw [if_neg c31] at H
                 exact nn_ H
               ·
                rw [if_neg c30] at H
                exact nn_ H
              ·
               rw [if_neg c29] at H
               have c29b0 : decide (x14_4 < (t353.length : Int)) = false := decide_eq_false c29
               clear c29
               replace H := bE_ H
               obtain ⟨t362, A380, H⟩ := H
               have A38 := mk0 A380
               clear A380
               replace H := bE_ H
               obtain ⟨t365, A390, H⟩ := H
               have A39 := mk0 A390
               clear A390
               replace H := bE_ H
               obtain ⟨t368, A400, H⟩ := H
               have A40 := mk0 A400
               clear A400
               have H' := mk0 H
               clear H
               obtain ⟨Ao41, co41, eo41⟩ := Kd.R_slice HO_13.out
               subst eo41
               go_wp2_with (first | (go_at_call 91; (with_reducible refine (spec_runningAt.calls k4 _ _ l0 _ _ x7_2 x9_2 t362 _ ?side1 ?side2 ?side3 ?side4 A38.out).mono ?_); (case side1 => repeat (first | exact (Kd.C_below HR0.out HB.out) | (with_reducible first | refine Ca_ ?_ _ | refine Cn_ ?_ _ | refine Cd_ ?_))); (case side2 => exact HC0.out); (case side3 => repeat (first | exact (Kd.R_reads' HO_7.out).2.2 | (with_reducible first | refine Ca_ ?_ _ | refine Cn_ ?_ _ | refine Cd_ ?_))); (case side4 => exact (Kd.R_reads' HO_7.out).2.1); rintro e w42 ⟨v363, rfl, ho0, hb⟩; have HO364 := mk0 (Kd.R_lower (Kd.R_new' (Kd.R_new' (Kd.R_new' ho0 (Kd.R_lt (by (with_reducible repeat (first | apply Ra_ | apply Rn_ | apply Rd_)); exact HO_7.out))) (Kd.R_lt (by (with_reducible repeat (first | apply Ra_ | apply Rn_ | apply Rd_)); exact HO_12.out))) (Kd.R_lt (by (with_reducible repeat (first | apply Ra_ | apply Rn_ | apply Rd_)); exact HO_13.out))) (below_size (by with_reducible repeat (first | exact HB.out | apply ba_ | apply bn_ | apply bd_)))); replace HO_7 := mk0 (Kd.R_elder' (by (with_reducible repeat (first | apply Ra_ | apply Rn_ | apply Rd_)); exact HO_7.out) (Kd.R_base ho0) hb); replace HO_12 := mk0 (Kd.R_elder' (by (with_reducible repeat (first | apply Ra_ | apply Rn_ | apply Rd_)); exact HO_12.out) (Kd.R_base ho0) hb); replace HO_13 := mk0 (Kd.R_elder' (by (with_reducible repeat (first | apply Ra_ | apply Rn_ | apply Rd_)); exact HO_13.out) (Kd.R_base ho0) hb); replace HB := mk0 (below_step (by with_reducible repeat (first | exact HB.out | apply ba_ | apply bn_ | apply bd_)) hb); clear hb ho0; obtain ⟨Ao43, co43, eo43⟩ := Kd.R_slice HO_12.out; subst eo43) | (go_at_call 37; (with_reducible refine (spec_byTail.calls k4 _ _ l0 _ _ x12_4 t365 _ ?side1 ?side2 ?side3 ?side4 A39.out).mono ?_); (case side1 => repeat (first | exact (Kd.C_below HR0.out HB.out) | (with_reducible first | refine Ca_ ?_ _ | refine Cn_ ?_ _ | refine Cd_ ?_))); (case side2 => exact HC0.out); (case side3 => repeat (first | exact (Kd.R_reads' HO_12.out).2.2 | (with_reducible first | refine Ca_ ?_ _ | refine Cn_ ?_ _ | refine Cd_ ?_))); (case side4 => exact (Kd.R_reads' HO_12.out).2.1); rintro e w44 ⟨v366, rfl, ho0, hb⟩; have HO367 := mk0 (Kd.R_lower (Kd.R_new' (Kd.R_new' (Kd.R_new' (Kd.R_new' ho0 (Kd.R_lt (by (with_reducible repeat (first | apply Ra_ | apply Rn_ | apply Rd_)); exact HO_7.out))) (Kd.R_lt (by (with_reducible repeat (first | apply Ra_ | apply Rn_ | apply Rd_)); exact HO_12.out))) (Kd.R_lt (by (with_reducible repeat (first | apply Ra_ | apply Rn_ | apply Rd_)); exact HO_13.out))) (Kd.R_lt (by (with_reducible repeat (first | apply Ra_ | apply Rn_ | apply Rd_)); exact HO364.out))) (below_size (by with_reducible repeat (first | exact HB.out | apply ba_ | apply bn_ | apply bd_)))); replace HO_7 := mk0 (Kd.R_elder' (by (with_reducible repeat (first | apply Ra_ | apply Rn_ | apply Rd_)); exact HO_7.out) (Kd.R_base ho0) hb); replace HO_12 := mk0 (Kd.R_elder' (by (with_reducible repeat (first | apply Ra_ | apply Rn_ | apply Rd_)); exact HO_12.out) (Kd.R_base ho0) hb); replace HO_13 := mk0 (Kd.R_elder' (by (with_reducible repeat (first | apply Ra_ | apply Rn_ | apply Rd_)); exact HO_13.out) (Kd.R_base ho0) hb); replace HO364 := mk0 (Kd.R_elder' (by (with_reducible repeat (first | apply Ra_ | apply Rn_ | apply Rd_)); exact HO364.out) (Kd.R_base ho0) hb); replace HB := mk0 (below_step (by with_reducible repeat (first | exact HB.out | apply ba_ | apply bn_ | apply bd_)) hb); clear hb ho0; obtain ⟨Ao45, co45, eo45⟩ := Kd.R_slice HO364.out; subst eo45; obtain ⟨Ao46, co46, eo46⟩ := Kd.R_slice HO367.out; subst eo46) | (go_at_call 94; (with_reducible refine (spec_admit.calls k4 _ _ l0 _ _ l1 _ _ t362 _ _ t365 a2 t368 _ ?side1 ?side2 ?side3 ?side4 ?side5 ?side6 ?side7 ?side8 A40.out).mono ?_); (case side1 => repeat (first | exact (Kd.C_below HR0.out HB.out) | (with_reducible first | refine Ca_ ?_ _ | refine Cn_ ?_ _ | refine Cd_ ?_))); (case side2 => exact HC0.out); (case side3 => repeat (first | exact (Kd.C_below HR1.out HB.out) | (with_reducible first | refine Ca_ ?_ _ | refine Cn_ ?_ _ | refine Cd_ ?_))); (case side4 => exact HC1.out); (case side5 => repeat (first | exact (Kd.R_reads' HO364.out).2.2 | (with_reducible first | refine Ca_ ?_ _ | refine Cn_ ?_ _ | refine Cd_ ?_))); (case side6 => exact (Kd.R_reads' HO364.out).2.1); (case side7 => repeat (first | exact (Kd.R_reads' HO367.out).2.2 | (with_reducible first | refine Ca_ ?_ _ | refine Cn_ ?_ _ | refine Cd_ ?_))); (case side8 => exact (Kd.R_reads' HO367.out).2.1); rintro e w47 ⟨v369, rfl, ho0, hb⟩; have HO370 := mk0 (Kd.R_lower (Kd.R_new' (Kd.R_new' (Kd.R_new' (Kd.R_new' (Kd.R_new' ho0 (Kd.R_lt (by (with_reducible repeat (first | apply Ra_ | apply Rn_ | apply Rd_)); exact HO_7.out))) (Kd.R_lt (by (with_reducible repeat (first | apply Ra_ | apply Rn_ | apply Rd_)); exact HO_12.out))) (Kd.R_lt (by (with_reducible repeat (first | apply Ra_ | apply Rn_ | apply Rd_)); exact HO_13.out))) (Kd.R_lt (by (with_reducible repeat (first | apply Ra_ | apply Rn_ | apply Rd_)); exact HO364.out))) (Kd.R_lt (by (with_reducible repeat (first | apply Ra_ | apply Rn_ | apply Rd_)); exact HO367.out))) (below_size (by with_reducible repeat (first | exact HB.out | apply ba_ | apply bn_ | apply bd_)))); replace HO_7 := mk0 (Kd.R_elder' (by (with_reducible repeat (first | apply Ra_ | apply Rn_ | apply Rd_)); exact HO_7.out) (Kd.R_base ho0) hb); replace HO_12 := mk0 (Kd.R_elder' (by (with_reducible repeat (first | apply Ra_ | apply Rn_ | apply Rd_)); exact HO_12.out) (Kd.R_base ho0) hb); replace HO_13 := mk0 (Kd.R_elder' (by (with_reducible repeat (first | apply Ra_ | apply Rn_ | apply Rd_)); exact HO_13.out) (Kd.R_base ho0) hb); replace HO364 := mk0 (Kd.R_elder' (by (with_reducible repeat (first | apply Ra_ | apply Rn_ | apply Rd_)); exact HO364.out) (Kd.R_base ho0) hb); replace HO367 := mk0 (Kd.R_elder' (by (with_reducible repeat (first | apply Ra_ | apply Rn_ | apply Rd_)); exact HO367.out) (Kd.R_base ho0) hb); replace HB := mk0 (below_step (by with_reducible repeat (first | exact HB.out | apply ba_ | apply bn_ | apply bd_)) hb); clear hb ho0))
               repeat (go_quiet (first | (go_at_call 91; (with_reducible refine (spec_runningAt.calls k4 _ _ l0 _ _ x7_2 x9_2 t362 _ ?side1 ?side2 ?side3 ?side4 A38.out).mono ?_); (case side1 => repeat (first | exact (Kd.C_below HR0.out HB.out) | (with_reducible first | refine Ca_ ?_ _ | refine Cn_ ?_ _ | refine Cd_ ?_))); (case side2 => exact HC0.out); (case side3 => repeat (first | exact (Kd.R_reads' HO_7.out).2.2 | (with_reducible first | refine Ca_ ?_ _ | refine Cn_ ?_ _ | refine Cd_ ?_))); (case side4 => exact (Kd.R_reads' HO_7.out).2.1); rintro e w42 ⟨v363, rfl, ho0, hb⟩; have HO364 := mk0 (Kd.R_lower (Kd.R_new' (Kd.R_new' (Kd.R_new' ho0 (Kd.R_lt (by (with_reducible repeat (first | apply Ra_ | apply Rn_ | apply Rd_)); exact HO_7.out))) (Kd.R_lt (by (with_reducible repeat (first | apply Ra_ | apply Rn_ | apply Rd_)); exact HO_12.out))) (Kd.R_lt (by (with_reducible repeat (first | apply Ra_ | apply Rn_ | apply Rd_)); exact HO_13.out))) (below_size (by with_reducible repeat (first | exact HB.out | apply ba_ | apply bn_ | apply bd_)))); replace HO_7 := mk0 (Kd.R_elder' (by (with_reducible repeat (first | apply Ra_ | apply Rn_ | apply Rd_)); exact HO_7.out) (Kd.R_base ho0) hb); replace HO_12 := mk0 (Kd.R_elder' (by (with_reducible repeat (first | apply Ra_ | apply Rn_ | apply Rd_)); exact HO_12.out) (Kd.R_base ho0) hb); replace HO_13 := mk0 (Kd.R_elder' (by (with_reducible repeat (first | apply Ra_ | apply Rn_ | apply Rd_)); exact HO_13.out) (Kd.R_base ho0) hb); replace HB := mk0 (below_step (by with_reducible repeat (first | exact HB.out | apply ba_ | apply bn_ | apply bd_)) hb); clear hb ho0; obtain ⟨Ao43, co43, eo43⟩ := Kd.R_slice HO_12.out; subst eo43) | (go_at_call 37; (with_reducible refine (spec_byTail.calls k4 _ _ l0 _ _ x12_4 t365 _ ?side1 ?side2 ?side3 ?side4 A39.out).mono ?_); (case side1 => repeat (first | exact (Kd.C_below HR0.out HB.out) | (with_reducible first | refine Ca_ ?_ _ | refine Cn_ ?_ _ | refine Cd_ ?_))); (case side2 => exact HC0.out); (case side3 => repeat (first | exact (Kd.R_reads' HO_12.out).2.2 | (with_reducible first | refine Ca_ ?_ _ | refine Cn_ ?_ _ | refine Cd_ ?_))); (case side4 => exact (Kd.R_reads' HO_12.out).2.1); rintro e w44 ⟨v366, rfl, ho0, hb⟩; have HO367 := mk0 (Kd.R_lower (Kd.R_new' (Kd.R_new' (Kd.R_new' (Kd.R_new' ho0 (Kd.R_lt (by (with_reducible repeat (first | apply Ra_ | apply Rn_ | apply Rd_)); exact HO_7.out))) (Kd.R_lt (by (with_reducible repeat (first | apply Ra_ | apply Rn_ | apply Rd_)); exact HO_12.out))) (Kd.R_lt (by (with_reducible repeat (first | apply Ra_ | apply Rn_ | apply Rd_)); exact HO_13.out))) (Kd.R_lt (by (with_reducible repeat (first | apply Ra_ | apply Rn_ | apply Rd_)); exact HO364.out))) (below_size (by with_reducible repeat (first | exact HB.out | apply ba_ | apply bn_ | apply bd_)))); replace HO_7 := mk0 (Kd.R_elder' (by (with_reducible repeat (first | apply Ra_ | apply Rn_ | apply Rd_)); exact HO_7.out) (Kd.R_base ho0) hb); replace HO_12 := mk0 (Kd.R_elder' (by (with_reducible repeat (first | apply Ra_ | apply Rn_ | apply Rd_)); exact HO_12.out) (Kd.R_base ho0) hb); replace HO_13 := mk0 (Kd.R_elder' (by (with_reducible repeat (first | apply Ra_ | apply Rn_ | apply Rd_)); exact HO_13.out) (Kd.R_base ho0) hb); replace HO364 := mk0 (Kd.R_elder' (by (with_reducible repeat (first | apply Ra_ | apply Rn_ | apply Rd_)); exact HO364.out) (Kd.R_base ho0) hb); replace HB := mk0 (below_step (by with_reducible repeat (first | exact HB.out | apply ba_ | apply bn_ | apply bd_)) hb); clear hb ho0; obtain ⟨Ao45, co45, eo45⟩ := Kd.R_slice HO364.out; subst eo45; obtain ⟨Ao46, co46, eo46⟩ := Kd.R_slice HO367.out; subst eo46) | (go_at_call 94; (with_reducible refine (spec_admit.calls k4 _ _ l0 _ _ l1 _ _ t362 _ _ t365 a2 t368 _ ?side1 ?side2 ?side3 ?side4 ?side5 ?side6 ?side7 ?side8 A40.out).mono ?_); (case side1 => repeat (first | exact (Kd.C_below HR0.out HB.out) | (with_reducible first | refine Ca_ ?_ _ | refine Cn_ ?_ _ | refine Cd_ ?_))); (case side2 => exact HC0.out); (case side3 => repeat (first | exact (Kd.C_below HR1.out HB.out) | (with_reducible first | refine Ca_ ?_ _ | refine Cn_ ?_ _ | refine Cd_ ?_))); (case side4 => exact HC1.out); (case side5 => repeat (first | exact (Kd.R_reads' HO364.out).2.2 | (with_reducible first | refine Ca_ ?_ _ | refine Cn_ ?_ _ | refine Cd_ ?_))); (case side6 => exact (Kd.R_reads' HO364.out).2.1); (case side7 => repeat (first | exact (Kd.R_reads' HO367.out).2.2 | (with_reducible first | refine Ca_ ?_ _ | refine Cn_ ?_ _ | refine Cd_ ?_))); (case side8 => exact (Kd.R_reads' HO367.out).2.1); rintro e w47 ⟨v369, rfl, ho0, hb⟩; have HO370 := mk0 (Kd.R_lower (Kd.R_new' (Kd.R_new' (Kd.R_new' (Kd.R_new' (Kd.R_new' ho0 (Kd.R_lt (by (with_reducible repeat (first | apply Ra_ | apply Rn_ | apply Rd_)); exact HO_7.out))) (Kd.R_lt (by (with_reducible repeat (first | apply Ra_ | apply Rn_ | apply Rd_)); exact HO_12.out))) (Kd.R_lt (by (with_reducible repeat (first | apply Ra_ | apply Rn_ | apply Rd_)); exact HO_13.out))) (Kd.R_lt (by (with_reducible repeat (first | apply Ra_ | apply Rn_ | apply Rd_)); exact HO364.out))) (Kd.R_lt (by (with_reducible repeat (first | apply Ra_ | apply Rn_ | apply Rd_)); exact HO367.out))) (below_size (by with_reducible repeat (first | exact HB.out | apply ba_ | apply bn_ | apply bd_)))); replace HO_7 := mk0 (Kd.R_elder' (by (with_reducible repeat (first | apply Ra_ | apply Rn_ | apply Rd_)); exact HO_7.out) (Kd.R_base ho0) hb); replace HO_12 := mk0 (Kd.R_elder' (by (with_reducible repeat (first | apply Ra_ | apply Rn_ | apply Rd_)); exact HO_12.out) (Kd.R_base ho0) hb); replace HO_13 := mk0 (Kd.R_elder' (by (with_reducible repeat (first | apply Ra_ | apply Rn_ | apply Rd_)); exact HO_13.out) (Kd.R_base ho0) hb); replace HO364 := mk0 (Kd.R_elder' (by (with_reducible repeat (first | apply Ra_ | apply Rn_ | apply Rd_)); exact HO364.out) (Kd.R_base ho0) hb); replace HO367 := mk0 (Kd.R_elder' (by (with_reducible repeat (first | apply Ra_ | apply Rn_ | apply Rd_)); exact HO367.out) (Kd.R_base ho0) hb); replace HB := mk0 (below_step (by with_reducible repeat (first | exact HB.out | apply ba_ | apply bn_ | apply bd_)) hb); clear hb ho0)); try go_wp2_with (first | (go_at_call 91; (with_reducible refine (spec_runningAt.calls k4 _ _ l0 _ _ x7_2 x9_2 t362 _ ?side1 ?side2 ?side3 ?side4 A38.out).mono ?_); (case side1 => repeat (first | exact (Kd.C_below HR0.out HB.out) | (with_reducible first | refine Ca_ ?_ _ | refine Cn_ ?_ _ | refine Cd_ ?_))); (case side2 => exact HC0.out); (case side3 => repeat (first | exact (Kd.R_reads' HO_7.out).2.2 | (with_reducible first | refine Ca_ ?_ _ | refine Cn_ ?_ _ | refine Cd_ ?_))); (case side4 => exact (Kd.R_reads' HO_7.out).2.1); rintro e w42 ⟨v363, rfl, ho0, hb⟩; have HO364 := mk0 (Kd.R_lower (Kd.R_new' (Kd.R_new' (Kd.R_new' ho0 (Kd.R_lt (by (with_reducible repeat (first | apply Ra_ | apply Rn_ | apply Rd_)); exact HO_7.out))) (Kd.R_lt (by (with_reducible repeat (first | apply Ra_ | apply Rn_ | apply Rd_)); exact HO_12.out))) (Kd.R_lt (by (with_reducible repeat (first | apply Ra_ | apply Rn_ | apply Rd_)); exact HO_13.out))) (below_size (by with_reducible repeat (first | exact HB.out | apply ba_ | apply bn_ | apply bd_)))); replace HO_7 := mk0 (Kd.R_elder' (by (with_reducible repeat (first | apply Ra_ | apply Rn_ | apply Rd_)); exact HO_7.out) (Kd.R_base ho0) hb); replace HO_12 := mk0 (Kd.R_elder' (by (with_reducible repeat (first | apply Ra_ | apply Rn_ | apply Rd_)); exact HO_12.out) (Kd.R_base ho0) hb); replace HO_13 := mk0 (Kd.R_elder' (by (with_reducible repeat (first | apply Ra_ | apply Rn_ | apply Rd_)); exact HO_13.out) (Kd.R_base ho0) hb); replace HB := mk0 (below_step (by with_reducible repeat (first | exact HB.out | apply ba_ | apply bn_ | apply bd_)) hb); clear hb ho0; obtain ⟨Ao43, co43, eo43⟩ := Kd.R_slice HO_12.out; subst eo43) | (go_at_call 37; (with_reducible refine (spec_byTail.calls k4 _ _ l0 _ _ x12_4 t365 _ ?side1 ?side2 ?side3 ?side4 A39.out).mono ?_); (case side1 => repeat (first | exact (Kd.C_below HR0.out HB.out) | (with_reducible first | refine Ca_ ?_ _ | refine Cn_ ?_ _ | refine Cd_ ?_))); (case side2 => exact HC0.out); (case side3 => repeat (first | exact (Kd.R_reads' HO_12.out).2.2 | (with_reducible first | refine Ca_ ?_ _ | refine Cn_ ?_ _ | refine Cd_ ?_))); (case side4 => exact (Kd.R_reads' HO_12.out).2.1); rintro e w44 ⟨v366, rfl, ho0, hb⟩; have HO367 := mk0 (Kd.R_lower (Kd.R_new' (Kd.R_new' (Kd.R_new' (Kd.R_new' ho0 (Kd.R_lt (by (with_reducible repeat (first | apply Ra_ | apply Rn_ | apply Rd_)); exact HO_7.out))) (Kd.R_lt (by (with_reducible repeat (first | apply Ra_ | apply Rn_ | apply Rd_)); exact HO_12.out))) (Kd.R_lt (by (with_reducible repeat (first | apply Ra_ | apply Rn_ | apply Rd_)); exact HO_13.out))) (Kd.R_lt (by (with_reducible repeat (first | apply Ra_ | apply Rn_ | apply Rd_)); exact HO364.out))) (below_size (by with_reducible repeat (first | exact HB.out | apply ba_ | apply bn_ | apply bd_)))); replace HO_7 := mk0 (Kd.R_elder' (by (with_reducible repeat (first | apply Ra_ | apply Rn_ | apply Rd_)); exact HO_7.out) (Kd.R_base ho0) hb); replace HO_12 := mk0 (Kd.R_elder' (by (with_reducible repeat (first | apply Ra_ | apply Rn_ | apply Rd_)); exact HO_12.out) (Kd.R_base ho0) hb); replace HO_13 := mk0 (Kd.R_elder' (by (with_reducible repeat (first | apply Ra_ | apply Rn_ | apply Rd_)); exact HO_13.out) (Kd.R_base ho0) hb); replace HO364 := mk0 (Kd.R_elder' (by (with_reducible repeat (first | apply Ra_ | apply Rn_ | apply Rd_)); exact HO364.out) (Kd.R_base ho0) hb); replace HB := mk0 (below_step (by with_reducible repeat (first | exact HB.out | apply ba_ | apply bn_ | apply bd_)) hb); clear hb ho0; obtain ⟨Ao45, co45, eo45⟩ := Kd.R_slice HO364.out; subst eo45; obtain ⟨Ao46, co46, eo46⟩ := Kd.R_slice HO367.out; subst eo46) | (go_at_call 94; (with_reducible refine (spec_admit.calls k4 _ _ l0 _ _ l1 _ _ t362 _ _ t365 a2 t368 _ ?side1 ?side2 ?side3 ?side4 ?side5 ?side6 ?side7 ?side8 A40.out).mono ?_); (case side1 => repeat (first | exact (Kd.C_below HR0.out HB.out) | (with_reducible first | refine Ca_ ?_ _ | refine Cn_ ?_ _ | refine Cd_ ?_))); (case side2 => exact HC0.out); (case side3 => repeat (first | exact (Kd.C_below HR1.out HB.out) | (with_reducible first | refine Ca_ ?_ _ | refine Cn_ ?_ _ | refine Cd_ ?_))); (case side4 => exact HC1.out); (case side5 => repeat (first | exact (Kd.R_reads' HO364.out).2.2 | (with_reducible first | refine Ca_ ?_ _ | refine Cn_ ?_ _ | refine Cd_ ?_))); (case side6 => exact (Kd.R_reads' HO364.out).2.1); (case side7 => repeat (first | exact (Kd.R_reads' HO367.out).2.2 | (with_reducible first | refine Ca_ ?_ _ | refine Cn_ ?_ _ | refine Cd_ ?_))); (case side8 => exact (Kd.R_reads' HO367.out).2.1); rintro e w47 ⟨v369, rfl, ho0, hb⟩; have HO370 := mk0 (Kd.R_lower (Kd.R_new' (Kd.R_new' (Kd.R_new' (Kd.R_new' (Kd.R_new' ho0 (Kd.R_lt (by (with_reducible repeat (first | apply Ra_ | apply Rn_ | apply Rd_)); exact HO_7.out))) (Kd.R_lt (by (with_reducible repeat (first | apply Ra_ | apply Rn_ | apply Rd_)); exact HO_12.out))) (Kd.R_lt (by (with_reducible repeat (first | apply Ra_ | apply Rn_ | apply Rd_)); exact HO_13.out))) (Kd.R_lt (by (with_reducible repeat (first | apply Ra_ | apply Rn_ | apply Rd_)); exact HO364.out))) (Kd.R_lt (by (with_reducible repeat (first | apply Ra_ | apply Rn_ | apply Rd_)); exact HO367.out))) (below_size (by with_reducible repeat (first | exact HB.out | apply ba_ | apply bn_ | apply bd_)))); replace HO_7 := mk0 (Kd.R_elder' (by (with_reducible repeat (first | apply Ra_ | apply Rn_ | apply Rd_)); exact HO_7.out) (Kd.R_base ho0) hb); replace HO_12 := mk0 (Kd.R_elder' (by (with_reducible repeat (first | apply Ra_ | apply Rn_ | apply Rd_)); exact HO_12.out) (Kd.R_base ho0) hb); replace HO_13 := mk0 (Kd.R_elder' (by (with_reducible repeat (first | apply Ra_ | apply Rn_ | apply Rd_)); exact HO_13.out) (Kd.R_base ho0) hb); replace HO364 := mk0 (Kd.R_elder' (by (with_reducible repeat (first | apply Ra_ | apply Rn_ | apply Rd_)); exact HO364.out) (Kd.R_base ho0) hb); replace HO367 := mk0 (Kd.R_elder' (by (with_reducible repeat (first | apply Ra_ | apply Rn_ | apply Rd_)); exact HO367.out) (Kd.R_base ho0) hb); replace HB := mk0 (below_step (by with_reducible repeat (first | exact HB.out | apply ba_ | apply bn_ | apply bd_)) hb); clear hb ho0)))
               go_loopg [16] k4 (fun kq v16 w' => ∃ (x7_5 : List Int) (x16_5 : Int), v16 = .int .i64 x16_5 ∧ Aside0 (spec_plan.l4 kq l0 l1 a2 x7_5 x9_2 t368 x16_5 = some r) ∧ Aside0 (kq ≤ k4) ∧ Aside0 (Kd.R (Kd.int .i64) 3 w' w.heap.size (fun k_ => some k_ ≠ (v369 : Value).ownBlock) (.slice Ao14 x7_2.length co14) x7_5) ∧ Aside0 (Kd.R (Kd.int .i64) 3 w' w.heap.size (fun k_ => some k_ ≠ ((.slice Ao14 x7_2.length co14) : Value).ownBlock) v369 t368) ∧ Aside0 (Below w.heap.size w w'))
               case atStart => exact ⟨(x7_2), (0), (by first | rfl | (simp; done) | (simp [*]; done)), H', ⟨Nat.le_refl _⟩, ⟨by (try simp only [hl7_2]); (with_reducible repeat (first | apply Ra_ | apply Rn_ | apply Rd_)); exact Kd.R_mono HO_7.out (fun _ hk => hk.2)⟩, ⟨by (try simp only [hl7_2]); (with_reducible repeat (first | apply Ra_ | apply Rn_ | apply Rd_)); exact Kd.R_mono HO370.out (fun _ hk => hk.1.1.1.1.2)⟩, ⟨by with_reducible repeat (first | exact HB.out | apply ba_ | apply bn_ | apply bd_)⟩⟩
               case round =>
                clear H'
                try clear c1
                try clear p1
                try clear q1
                try clear hx1
                try clear c2
                try clear p2
                try clear c3
                try clear p3
                try clear q3
                try clear hx3
                try clear c4
                try clear c4b0
                try clear c4b1
                try clear c5
                try clear c5b0
                try clear c5b1
                try clear p6
                try clear c8
                try clear c8b0
                try clear c9
                try clear c9b0
                try clear p10
                try clear q10
                try clear hx10
                try clear hf10
                try clear c15
                try clear c15b0
                try clear c18
                try clear c18b0
                try clear c19
                try clear c19b0
                try clear c20
                try clear c20b0
                try clear c21
                try clear c21b0
                try clear c22
                try clear c29
                try clear c29b0
                try clear c30
                try clear c30b0
                try clear c31
                try clear c31b0
                try clear c32
                try clear c32b0
                try clear c33
                try clear c33b0
                try clear c33b1
                try clear c34
                try clear p34
                try clear q34
                try clear hx34
                try clear p35
                try clear q35
                try clear hx35
                try clear hx10_0
                try clear hx345_0
                try clear hx346_0
                try clear hx346_1
                try clear hx346_2
                try clear hx346_3
                try clear hx356_0
                try clear hx357_0
                try clear hx358_0
                try clear p1
                try clear p10
                try clear p2
                try clear p3
                try clear p345
                try clear p346
                try clear p356
                try clear p357
                try clear p358
                try clear p6
                try clear q1
                try clear q10
                try clear q3
                try clear q345
                try clear q346
                try clear q356
                try clear q357
                try clear q358
                obtain ⟨x7_5, x16_5, rfl, HA, HK5, HO_7, HO_15, HB⟩ := hrel
                have hl7_5 := (Kd.R_reads' HO_7.out).1
                rw [hl7_5] at HO_7
                (try simp only [hl7_5])
                (try simp only [hl7_5] at HO_15)
                cases gk with
                | zero => exact absurd HA.out (by simp [spec_plan.l4])
                | succ k5 =>
                 have H := HA.out
                 clear HA
                 simp only [spec_plan.l4] at H
                 by_cases c48 : x16_5 < (t368.length : Int)
                 ·
                  rw [if_pos c48] at H
                  have c48b0 : decide (x16_5 < (t368.length : Int)) = true := decide_eq_true c48
                  clear c48
                  by_cases c49 : 0 ≤ x16_5
                  ·
                   rw [if_pos c49] at H
                   have c49b0 : decide (0 ≤ x16_5) = true := decide_eq_true c49
                   clear c49
                   by_cases c50 : 0 ≤ (rd t368 x16_5)
                   ·
                    rw [if_pos c50] at H
                    have c50b0 : decide (0 ≤ (rd t368 x16_5)) = true := decide_eq_true c50
                    clear c50
                    by_cases c51 : (rd t368 x16_5) < (x7_5.length : Int)
                    ·
                     rw [if_pos c51] at H
                     have c51b0 : decide ((rd t368 x16_5) < (x7_5.length : Int)) = true := decide_eq_true c51
                     clear c51
                     obtain ⟨y372, hy372⟩ : ∃ y_ : List Int, y_ = (x7_5.set ((rd t368 x16_5) : Int).toNat x9_2) := ⟨_, rfl⟩
                     replace H : (spec_plan.l4 k5 l0 l1 a2 y372 x9_2 t368 (wrap64 (x16_5 + 1))) = some r := by first | (rw [hy372]; with_reducible exact H) | (rw [hy372]; exact (Option.bind_some _ _).symm.trans H) | (rw [hy372]; exact H) | exact H
                     have Ny372 := mk0 hy372
                     clear hy372
                     have H' := mk0 H
                     clear H
                     obtain ⟨Ao53, co53, eo53⟩ := Kd.R_slice HO_15.out
                     subst eo53
                     have p371 : 0 ≤ (x16_5 : Int) := od_ (by with_reducible assumption)
                     have q371 : x16_5 < (t368.length : Int) := od_ (by with_reducible assumption)
                     obtain ⟨ad371, e371, hx371_0⟩ := Kd.at_int (Kd.R_reads' HO_15.out).2.2 x16_5 p371 q371
                     cases e371
                     replace p371 := eq_true p371
                     replace q371 := eq_true q371
                     have p52 : 0 ≤ ((rd t368 x16_5) : Int) := od_ (by with_reducible assumption)
                     have q52 : ((rd t368 x16_5) : Int) < ((x7_5.length : Int) : Int) := od_ (by with_reducible assumption)
                     obtain ⟨go52, co52, eo52, gb52, gl52, cl52, HG52⟩ := Kd.R_form HO_7.out (by omega)
                     (first | cases eo52 | (injection eo52 with ea_ en_ ec_; (first | subst ea_ | (injection ea_ with ea_; subst ea_)); subst ec_; clear en_))
                     have GB52 := mk0 gb52
                     have GG52 := mk0 HG52
                     clear gb52 gl52 HG52
                     obtain ⟨hx52_0, hf52_0⟩ := Kd.R_celln 0 HO_7.out ((rd t368 x16_5) : Int) p52 q52
                     replace p52 := eq_true p52
                     replace q52 := eq_true q52
                     have HP54 := Kd.R_putg HO_7.out ((rd t368 x16_5) : Int) x9_2
                     go_wp2_with (first | ((with_reducible refine gate_store (t := 3) (p := 104) rfl ?_); (try (rw [drewN_self wr]; generalize hq_ : World.drewN wr _ = wr; replace HO_7 := mk0 (Kd.R_at hq_ HO_7.out); replace HO_15 := mk0 (Kd.R_at hq_ HO_15.out); replace HB := mk0 (below_at hq_ HB.out); clear hq_; (try (have HP54 := Kd.R_putg HO_7.out ((rd t368 x16_5) : Int) x9_2)))); refine store_event (t := 3) (p := 104) (v := ?vo_w55) (w1 := (wr.setCell ⟨go52, ((rd t368 x16_5) : Int).toNat, none⟩ (.int .i64 x9_2))) ?hg ?ho ?hn ?hr ?_; (case ho => rfl); (case hg => rfl); (case hn => rfl); (case hr => first | (go_simp; done) | (go_simp; rfl)); intro w55 hw; have hg : wr.grownBy w55 (some go52) := (by rw [hw]; exact HP54.2); have hp_ : Kd.R (Kd.int .i64) 3 w55 w.heap.size (fun k_ => some k_ ≠ (.slice (some ad371) t368.length co53 : Value).ownBlock) (.slice (some ⟨go52, 0, none⟩) x7_5.length co14) y372 := (by rw [hw, Ny372.out]; exact HP54.1); clear HP54; replace HO_7 := mk0 (hp_); replace HO_15 := mk0 (Kd.R_after (v := (.slice (some ⟨go52, 0, none⟩) x7_5.length co14)) (v1 := (.slice (some ⟨go52, 0, none⟩) x7_5.length co14)) (ok := (fun _ => True)) (by (with_reducible repeat (first | apply Ra_ | apply Rn_ | apply Rd_)); exact Kd.R_mono HO_15.out (fun _ hk => ⟨trivial, hk⟩)) hg (.inl rfl)); replace HB := mk0 ((by rw [hw]; exact below_set (HB.out) GB52.out : Below w.heap.size w w55)); clear hg hw hp_))
                     repeat (go_quiet (first | ((with_reducible refine gate_store (t := 3) (p := 104) rfl ?_); (try (rw [drewN_self wr]; generalize hq_ : World.drewN wr _ = wr; replace HO_7 := mk0 (Kd.R_at hq_ HO_7.out); replace HO_15 := mk0 (Kd.R_at hq_ HO_15.out); replace HB := mk0 (below_at hq_ HB.out); clear hq_; (try (have HP54 := Kd.R_putg HO_7.out ((rd t368 x16_5) : Int) x9_2)))); refine store_event (t := 3) (p := 104) (v := ?vo_w55) (w1 := (wr.setCell ⟨go52, ((rd t368 x16_5) : Int).toNat, none⟩ (.int .i64 x9_2))) ?hg ?ho ?hn ?hr ?_; (case ho => rfl); (case hg => rfl); (case hn => rfl); (case hr => first | (go_simp; done) | (go_simp; rfl)); intro w55 hw; have hg : wr.grownBy w55 (some go52) := (by rw [hw]; exact HP54.2); have hp_ : Kd.R (Kd.int .i64) 3 w55 w.heap.size (fun k_ => some k_ ≠ (.slice (some ad371) t368.length co53 : Value).ownBlock) (.slice (some ⟨go52, 0, none⟩) x7_5.length co14) y372 := (by rw [hw, Ny372.out]; exact HP54.1); clear HP54; replace HO_7 := mk0 (hp_); replace HO_15 := mk0 (Kd.R_after (v := (.slice (some ⟨go52, 0, none⟩) x7_5.length co14)) (v1 := (.slice (some ⟨go52, 0, none⟩) x7_5.length co14)) (ok := (fun _ => True)) (by (with_reducible repeat (first | apply Ra_ | apply Rn_ | apply Rd_)); exact Kd.R_mono HO_15.out (fun _ hk => ⟨trivial, hk⟩)) hg (.inl rfl)); replace HB := mk0 ((by rw [hw]; exact below_set (HB.out) GB52.out : Below w.heap.size w w55)); clear hg hw hp_)); try go_wp2_with (first | ((with_reducible refine gate_store (t := 3) (p := 104) rfl ?_); (try (rw [drewN_self wr]; generalize hq_ : World.drewN wr _ = wr; replace HO_7 := mk0 (Kd.R_at hq_ HO_7.out); replace HO_15 := mk0 (Kd.R_at hq_ HO_15.out); replace HB := mk0 (below_at hq_ HB.out); clear hq_; (try (have HP54 := Kd.R_putg HO_7.out ((rd t368 x16_5) : Int) x9_2)))); refine store_event (t := 3) (p := 104) (v := ?vo_w55) (w1 := (wr.setCell ⟨go52, ((rd t368 x16_5) : Int).toNat, none⟩ (.int .i64 x9_2))) ?hg ?ho ?hn ?hr ?_; (case ho => rfl); (case hg => rfl); (case hn => rfl); (case hr => first | (go_simp; done) | (go_simp; rfl)); intro w55 hw; have hg : wr.grownBy w55 (some go52) := (by rw [hw]; exact HP54.2); have hp_ : Kd.R (Kd.int .i64) 3 w55 w.heap.size (fun k_ => some k_ ≠ (.slice (some ad371) t368.length co53 : Value).ownBlock) (.slice (some ⟨go52, 0, none⟩) x7_5.length co14) y372 := (by rw [hw, Ny372.out]; exact HP54.1); clear HP54; replace HO_7 := mk0 (hp_); replace HO_15 := mk0 (Kd.R_after (v := (.slice (some ⟨go52, 0, none⟩) x7_5.length co14)) (v1 := (.slice (some ⟨go52, 0, none⟩) x7_5.length co14)) (ok := (fun _ => True)) (by (with_reducible repeat (first | apply Ra_ | apply Rn_ | apply Rd_)); exact Kd.R_mono HO_15.out (fun _ hk => ⟨trivial, hk⟩)) hg (.inl rfl)); replace HB := mk0 ((by rw [hw]; exact below_set (HB.out) GB52.out : Below w.heap.size w w55)); clear hg hw hp_)))
                     (try simp only [← hl7_5])
                     go_roundg k5
                     case measure => have := HK1.out; have := HK2.out; have := HK3.out; have := HK4.out; have := HK5.out; omega
                     case rel => exact ⟨(y372), (wrap64 (x16_5 + 1)), (by first | rfl | (simp; done) | (simp [*]; done)), H', ⟨by have := HK1.out; have := HK2.out; have := HK3.out; have := HK4.out; have := HK5.out; omega⟩, ⟨by (try simp only [hl7_2]); (try simp only [hl7_5]); (with_reducible repeat (first | apply Ra_ | apply Rn_ | apply Rd_)); exact HO_7.out⟩, ⟨by (try simp only [hl7_2]); (try simp only [hl7_5]); (with_reducible repeat (first | apply Ra_ | apply Rn_ | apply Rd_)); exact Kd.R_mono HO_15.out (fun _ hk => hk.2)⟩, ⟨by with_reducible repeat (first | exact HB.out | apply ba_ | apply bn_ | apply bd_)⟩⟩
                    ·
                     rw [if_neg c51] at H
                     exact nn_ H
                   ·
                    rw [if_neg c50] at H
                    exact nn_ H
                  ·
                   rw [if_neg c49] at H
                   exact nn_ H
                 ·
                  rw [if_neg c48] at H
                  have c48b0 : decide (x16_5 < (t368.length : Int)) = false := decide_eq_false c48
                  clear c48
                  have H' := mk0 H
                  clear H
                  obtain ⟨Ao56, co56, eo56⟩ := Kd.R_slice HO_15.out
                  subst eo56
                  go_wp2
                  repeat (go_quiet (fail); try go_wp2)
                  (try simp only [← hl7_2, ← hl7_5])
                  go_roundg k5
                  case measure => have := HK1.out; have := HK2.out; have := HK3.out; have := HK4.out; have := HK5.out; omega
                  case rel => exact ⟨(x7_5), (wrap64 (x9_2 + 1)), (by first | rfl | (simp; done) | (simp [*]; done)), H', ⟨by have := HK1.out; have := HK2.out; have := HK3.out; have := HK4.out; have := HK5.out; omega⟩, ⟨by (try simp only [hl7_2]); (try simp only [hl7_5]); (with_reducible repeat (first | apply Ra_ | apply Rn_ | apply Rd_)); exact Kd.R_mono HO_7.out (fun _ hk => trivial)⟩, ⟨by with_reducible repeat (first | exact HB.out | apply ba_ | apply bn_ | apply bd_)⟩⟩
        ·
         rw [if_neg c15] at H
         have c15b0 : decide (x9_2 < 200) = false := decide_eq_false c15
         clear c15
         obtain rfl := Option.some.inj H
         go_wp2
         repeat (go_quiet (fail); try go_wp2)
         go_ret
         exact ⟨_, by first | rfl | (simp [errW_none, errW_some] <;> rfl) | (simp [*, errW_none, errW_some] <;> rfl), by (with_reducible repeat (first | apply Ra_ | apply Rn_ | apply Rd_)); exact HO_7.out, by with_reducible repeat (first | exact HB.out | apply ba_ | apply bn_ | apply bd_)⟩
  ·
   rw [if_neg c5] at H
   exact nn_ H
 ·
  rw [if_neg c4] at H
  exact nn_ H
end Go.Proofs.YtlcdffhhimbbmaaDoor.PFnValidLog
