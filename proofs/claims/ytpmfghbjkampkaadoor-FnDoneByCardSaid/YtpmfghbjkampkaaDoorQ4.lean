/- Draws. Cut down, by a program of mine, from what print.sh printed for this seat. -/
import Derived.Test.YtpmfghbjkampkaaDoorAdmit
namespace Go.Proofs.YtpmfghbjkampkaaDoor.PFnValidLog
open Go.RowKit Go.Proofs.YtpmfghbjkampkaaDoorW.PrintWords Go.Proofs.YtpmfghbjkampkaaDoorW.PrintLast Go.Proofs.YtpmfghbjkampkaaDoorW.PrintMore
attribute [local go_sem] max2_int min2_int max_two min_two max_three min_three max_four min_four
set_option linter.unusedVariables false
set_option linter.unusedSimpArgs false
/-! spec_plan -/
mutual
def spec_plan.l0 : Nat → List (S41) → List Int → Int → List Int → Int → Option (List Int)
 | 0, _, _, _, _, _ => none
 | k + 1, x0, x1, x2, x7, x8 => if x8 < (x7.length : Int) then (if 0 ≤ x8 then (spec_plan.l0 k x0 x1 x2 (x7.set (x8 : Int).toNat 200) (wrap64 (x8 + 1))) else (none)) else (spec_plan.l1 k x0 x1 x2 x7 0)
def spec_plan.l1 : Nat → List (S41) → List Int → Int → List Int → Int → Option (List Int)
 | 0, _, _, _, _, _ => none
 | k + 1, x0, x1, x2, x7, x9 => if x9 < 200 then (spec_plan.l2 k x0 x1 x2 x7 x9 (([] : List Int)) 0) else (some x7)
def spec_plan.l2 : Nat → List (S41) → List Int → Int → List Int → Int → List Int → Int → Option (List Int)
 | 0, _, _, _, _, _, _, _ => none
 | k + 1, x0, x1, x2, x7, x9, x10, x11 => if x11 < (x0.length : Int) then (if 0 ≤ x11 then (if x11 < (x7.length : Int) then (if (wrap64 ((rd x7 x11) + ((rd_T41 x0 x11).f0))) ≤ x9 then (if x10.length < 17592186044416 then (spec_plan.l2 k x0 x1 x2 x7 x9 (x10 ++ [x11]) (wrap64 (x11 + 1))) else (none)) else (spec_plan.l2 k x0 x1 x2 x7 x9 x10 (wrap64 (x11 + 1)))) else (none)) else (none)) else ((spec_ready.f k x0 x10).bind fun t326 => (spec_plan.l3 k x0 x1 x2 x7 x9 (([] : List Int)) t326 0))
def spec_plan.l3 : Nat → List (S41) → List Int → Int → List Int → Int → List Int → List Int → Int → Option (List Int)
 | 0, _, _, _, _, _, _, _, _ => none
 | k + 1, x0, x1, x2, x7, x9, x12, x13, x14 => if x14 < (x13.length : Int) then (if 0 ≤ x14 then (if 0 ≤ (rd x13 x14) then (if (rd x13 x14) < (x7.length : Int) then (if (rd x7 (rd x13 x14)) = 200 then (if x12.length < 17592186044416 then (spec_plan.l3 k x0 x1 x2 x7 x9 (x12 ++ [rd x13 x14]) x13 (wrap64 (x14 + 1))) else (none)) else (spec_plan.l3 k x0 x1 x2 x7 x9 x12 x13 (wrap64 (x14 + 1)))) else (none)) else (none)) else (none)) else ((spec_runningAt.f k x0 x7 x9).bind fun t335 => ((spec_byTail.f k x0 x12).bind fun t338 => ((spec_admit.f k x0 x1 t335 t338 x2).bind fun t341 => (spec_plan.l4 k x0 x1 x2 x7 x9 t341 0))))
def spec_plan.l4 : Nat → List (S41) → List Int → Int → List Int → Int → List Int → Int → Option (List Int)
 | 0, _, _, _, _, _, _, _ => none
 | k + 1, x0, x1, x2, x7, x9, x15, x16 => if x16 < (x15.length : Int) then (if 0 ≤ x16 then (if 0 ≤ (rd x15 x16) then (if (rd x15 x16) < (x7.length : Int) then (spec_plan.l4 k x0 x1 x2 (x7.set ((rd x15 x16) : Int).toNat x9) x9 x15 (wrap64 (x16 + 1))) else (none)) else (none)) else (none)) else (spec_plan.l1 k x0 x1 x2 x7 (wrap64 (x9 + 1)))
end
def spec_plan.f (k : Nat) (l0 : List (S41)) (l1 : List Int) (a2 : Int) : Option (List Int) := if 0 ≤ (l0.length : Int) then (if ((l0.length : Int) : Int).toNat ≤ 35184372088832 then (spec_plan.l0 k l0 l1 a2 (List.replicate ((l0.length : Int) : Int).toNat 0) 0) else (none)) else (none)
set_option maxHeartbeats 8000000 in
set_option maxRecDepth 100000 in
theorem spec_plan.calls (k : Nat) (A0 : Option Addr) (c0 : Nat) (l0 : List (S41)) (A1 : Option Addr) (c1 : Nat) (l1 : List Int) (a2 : Int) (r : List Int) (w : World) (hr0 : Kd.C k41 w A0 l0.length l0) (hc0 : l0.length ≤ c0) (hr1 : Kd.C (Kd.int .i64) w A1 l1.length l1) (hc1 : l1.length ≤ c1) (h : spec_plan.f k l0 l1 a2 = some r) :
  Calls Tryd.prog 44 #[.slice A0 l0.length c0, .slice A1 l1.length c1, .int .i64 a2] w fun e w' => ∃ v0_ : Value, e = .returned (v0_) ∧ Kd.R (Kd.int .i64) 3 w' w.heap.size (fun _ => True) v0_ r ∧ Below w.heap.size w w' := by
 have HR0 := mk0 hr0
 have HC0 := mk0 hc0
 clear hr0 hc0
 have HR1 := mk0 hr1
 have HC1 := mk0 hc1
 clear hr1 hc1
 have HB := mk0 (Below.refl w.heap.size w)
 have H : (if 0 ≤ (l0.length : Int) then (if ((l0.length : Int) : Int).toNat ≤ 35184372088832 then (spec_plan.l0 k l0 l1 a2 (List.replicate ((l0.length : Int) : Int).toNat 0) 0) else (none)) else (none)) = some r := h
 clear h
 by_cases c4 : 0 ≤ (l0.length : Int)
 ·
  rw [if_pos c4] at H
  have c4b0 := eq_true c4
  have c4b1 : decide (0 ≤ (l0.length : Int)) = true := decide_eq_true c4
  clear c4
  by_cases c5 : ((l0.length : Int) : Int).toNat ≤ 35184372088832
  ·
   rw [if_pos c5] at H
   have c5b0 := eq_true c5
   have c5b1 : decide (((l0.length : Int) : Int).toNat ≤ 35184372088832) = true := decide_eq_true c5
   clear c5
   obtain ⟨y311, hy311⟩ : ∃ y_ : List Int, y_ = (List.replicate ((l0.length : Int) : Int).toNat 0) := ⟨_, rfl⟩
   replace H : (spec_plan.l0 k l0 l1 a2 y311 0) = some r := by first | (rw [hy311]; with_reducible exact H) | (rw [hy311]; exact (Option.bind_some _ _).symm.trans H) | (rw [hy311]; exact H) | exact H
   have Ny311 := mk0 hy311
   clear hy311
   have H' := mk0 H
   clear H
   go_enter Tryd.func44, Tryd.ntmps44
   go_wp2_with (first | ((with_reducible refine gate_dst (N := 19) rfl ?_); refine Kd.R_make (Kd.int .i64) _ 3 rfl (N := 19) rfl 23 _ _ rfl (l0.length : Int) rfl rfl Tryd.underlying23 (.int .i64 0) 8 info3 rfl (by decide) (by omega) 0 (ok := fun _ => True) (okp := fun _ => True) rfl (fun _ hk => hk) trivial (od_ (by with_reducible assumption)) (Nat.le_trans (Nat.mul_le_mul_right _ (od_ (by with_reducible assumption) : (l0.length : Int).toNat ≤ 35184372088832)) (by omega)) (Below.refl _ _) (Nat.le_refl _) ?_; intro v312 w6 ho7 hb hg_ hnew_; clear hg_ hnew_; (first | rw [← Ny311.out] at ho7 | (simp only [Int.reduceToNat] at ho7; rw [← Ny311.out] at ho7)); have HO313 := mk0 (Kd.R_lower ho7 (below_size (by with_reducible repeat (first | exact HB.out | apply ba_ | apply bn_ | apply bd_)))); replace HB := mk0 (below_step (by with_reducible repeat (first | exact HB.out | apply ba_ | apply bn_ | apply bd_)) hb); clear hb ho7))
   repeat (go_quiet (first | ((with_reducible refine gate_dst (N := 19) rfl ?_); refine Kd.R_make (Kd.int .i64) _ 3 rfl (N := 19) rfl 23 _ _ rfl (l0.length : Int) rfl rfl Tryd.underlying23 (.int .i64 0) 8 info3 rfl (by decide) (by omega) 0 (ok := fun _ => True) (okp := fun _ => True) rfl (fun _ hk => hk) trivial (od_ (by with_reducible assumption)) (Nat.le_trans (Nat.mul_le_mul_right _ (od_ (by with_reducible assumption) : (l0.length : Int).toNat ≤ 35184372088832)) (by omega)) (Below.refl _ _) (Nat.le_refl _) ?_; intro v312 w6 ho7 hb hg_ hnew_; clear hg_ hnew_; (first | rw [← Ny311.out] at ho7 | (simp only [Int.reduceToNat] at ho7; rw [← Ny311.out] at ho7)); have HO313 := mk0 (Kd.R_lower ho7 (below_size (by with_reducible repeat (first | exact HB.out | apply ba_ | apply bn_ | apply bd_)))); replace HB := mk0 (below_step (by with_reducible repeat (first | exact HB.out | apply ba_ | apply bn_ | apply bd_)) hb); clear hb ho7)); try go_wp2_with (first | ((with_reducible refine gate_dst (N := 19) rfl ?_); refine Kd.R_make (Kd.int .i64) _ 3 rfl (N := 19) rfl 23 _ _ rfl (l0.length : Int) rfl rfl Tryd.underlying23 (.int .i64 0) 8 info3 rfl (by decide) (by omega) 0 (ok := fun _ => True) (okp := fun _ => True) rfl (fun _ hk => hk) trivial (od_ (by with_reducible assumption)) (Nat.le_trans (Nat.mul_le_mul_right _ (od_ (by with_reducible assumption) : (l0.length : Int).toNat ≤ 35184372088832)) (by omega)) (Below.refl _ _) (Nat.le_refl _) ?_; intro v312 w6 ho7 hb hg_ hnew_; clear hg_ hnew_; (first | rw [← Ny311.out] at ho7 | (simp only [Int.reduceToNat] at ho7; rw [← Ny311.out] at ho7)); have HO313 := mk0 (Kd.R_lower ho7 (below_size (by with_reducible repeat (first | exact HB.out | apply ba_ | apply bn_ | apply bd_)))); replace HB := mk0 (below_step (by with_reducible repeat (first | exact HB.out | apply ba_ | apply bn_ | apply bd_)) hb); clear hb ho7)))
   go_loopg [8] k (fun kq v8 w' => ∃ (x7_1 : List Int) (x8_1 : Int), v8 = .int .i64 x8_1 ∧ Aside0 (spec_plan.l0 kq l0 l1 a2 x7_1 x8_1 = some r) ∧ Aside0 (kq ≤ k) ∧ Aside0 (Kd.R (Kd.int .i64) 3 w' w.heap.size (fun _ => True) v312 x7_1) ∧ Aside0 (Below w.heap.size w w'))
   case atStart => exact ⟨(y311), (0), (by first | rfl | (simp; done) | (simp [*]; done)), H', ⟨Nat.le_refl _⟩, ⟨by (with_reducible repeat (first | apply Ra_ | apply Rn_ | apply Rd_)); exact HO313.out⟩, ⟨by with_reducible repeat (first | exact HB.out | apply ba_ | apply bn_ | apply bd_)⟩⟩
   case round =>
    clear H'
    try clear c1
    try clear p2
    try clear c4
    try clear c4b0
    try clear c4b1
    try clear c5
    try clear c5b0
    try clear c5b1
    obtain ⟨x7_1, x8_1, rfl, HA, HK1, HO_7, HB⟩ := hrel
    cases gk with
    | zero => exact absurd HA.out (by simp [spec_plan.l0])
    | succ k1 =>
     have H := HA.out
     clear HA
     simp only [spec_plan.l0] at H
     by_cases c8 : x8_1 < (x7_1.length : Int)
     ·
      rw [if_pos c8] at H
      have c8b0 : decide (x8_1 < (x7_1.length : Int)) = true := decide_eq_true c8
      clear c8
      by_cases c9 : 0 ≤ x8_1
      ·
       rw [if_pos c9] at H
       have c9b0 : decide (0 ≤ x8_1) = true := decide_eq_true c9
       clear c9
       obtain ⟨y314, hy314⟩ : ∃ y_ : List Int, y_ = (x7_1.set (x8_1 : Int).toNat 200) := ⟨_, rfl⟩
       replace H : (spec_plan.l0 k1 l0 l1 a2 y314 (wrap64 (x8_1 + 1))) = some r := by first | (rw [hy314]; with_reducible exact H) | (rw [hy314]; exact (Option.bind_some _ _).symm.trans H) | (rw [hy314]; exact H) | exact H
       have Ny314 := mk0 hy314
       clear hy314
       have H' := mk0 H
       clear H
       obtain ⟨Ao11, co11, eo11⟩ := Kd.R_slice HO_7.out
       subst eo11
       have p10 : 0 ≤ (x8_1 : Int) := od_ (by with_reducible assumption)
       have q10 : (x8_1 : Int) < ((x7_1.length : Int) : Int) := od_ (by with_reducible assumption)
       obtain ⟨go10, co10, eo10, gb10, gl10, cl10, HG10⟩ := Kd.R_form HO_7.out (by omega)
       (first | cases eo10 | (injection eo10 with ea_ en_ ec_; (first | subst ea_ | (injection ea_ with ea_; subst ea_)); subst ec_; clear en_))
       have GB10 := mk0 gb10
       have GG10 := mk0 HG10
       clear gb10 gl10 HG10
       obtain ⟨hx10_0, hf10_0⟩ := Kd.R_celln 0 HO_7.out (x8_1 : Int) p10 q10
       replace p10 := eq_true p10
       replace q10 := eq_true q10
       have HP12 := Kd.R_putg HO_7.out (x8_1 : Int) 200
       go_wp2_with (first | ((with_reducible refine gate_store (t := 3) (p := 28) rfl ?_); (try (rw [drewN_self wr]; generalize hq_ : World.drewN wr _ = wr; replace HO_7 := mk0 (Kd.R_at hq_ HO_7.out); replace HB := mk0 (below_at hq_ HB.out); clear hq_; (try (have HP12 := Kd.R_putg HO_7.out (x8_1 : Int) 200)))); refine store_event (t := 3) (p := 28) (v := ?vo_w13) (w1 := (wr.setCell ⟨go10, (x8_1 : Int).toNat, none⟩ (.int .i64 200))) ?hg ?ho ?hn ?hr ?_; (case ho => rfl); (case hg => rfl); (case hn => rfl); (case hr => first | (go_simp; done) | (go_simp; rfl)); intro w13 hw; have hg : wr.grownBy w13 (some go10) := (by rw [hw]; exact HP12.2); have hp_ : Kd.R (Kd.int .i64) 3 w13 w.heap.size (fun _ => True) (.slice (some ⟨go10, 0, none⟩) x7_1.length co11) y314 := (by rw [hw, Ny314.out]; exact HP12.1); clear HP12; replace HO_7 := mk0 (hp_); replace HB := mk0 ((by rw [hw]; exact below_set (HB.out) GB10.out : Below w.heap.size w w13)); clear hg hw hp_))
       repeat (go_quiet (first | ((with_reducible refine gate_store (t := 3) (p := 28) rfl ?_); (try (rw [drewN_self wr]; generalize hq_ : World.drewN wr _ = wr; replace HO_7 := mk0 (Kd.R_at hq_ HO_7.out); replace HB := mk0 (below_at hq_ HB.out); clear hq_; (try (have HP12 := Kd.R_putg HO_7.out (x8_1 : Int) 200)))); refine store_event (t := 3) (p := 28) (v := ?vo_w13) (w1 := (wr.setCell ⟨go10, (x8_1 : Int).toNat, none⟩ (.int .i64 200))) ?hg ?ho ?hn ?hr ?_; (case ho => rfl); (case hg => rfl); (case hn => rfl); (case hr => first | (go_simp; done) | (go_simp; rfl)); intro w13 hw; have hg : wr.grownBy w13 (some go10) := (by rw [hw]; exact HP12.2); have hp_ : Kd.R (Kd.int .i64) 3 w13 w.heap.size (fun _ => True) (.slice (some ⟨go10, 0, none⟩) x7_1.length co11) y314 := (by rw [hw, Ny314.out]; exact HP12.1); clear HP12; replace HO_7 := mk0 (hp_); replace HB := mk0 ((by rw [hw]; exact below_set (HB.out) GB10.out : Below w.heap.size w w13)); clear hg hw hp_)); try go_wp2_with (first | ((with_reducible refine gate_store (t := 3) (p := 28) rfl ?_); (try (rw [drewN_self wr]; generalize hq_ : World.drewN wr _ = wr; replace HO_7 := mk0 (Kd.R_at hq_ HO_7.out); replace HB := mk0 (below_at hq_ HB.out); clear hq_; (try (have HP12 := Kd.R_putg HO_7.out (x8_1 : Int) 200)))); refine store_event (t := 3) (p := 28) (v := ?vo_w13) (w1 := (wr.setCell ⟨go10, (x8_1 : Int).toNat, none⟩ (.int .i64 200))) ?hg ?ho ?hn ?hr ?_; (case ho => rfl); (case hg => rfl); (case hn => rfl); (case hr => first | (go_simp; done) | (go_simp; rfl)); intro w13 hw; have hg : wr.grownBy w13 (some go10) := (by rw [hw]; exact HP12.2); have hp_ : Kd.R (Kd.int .i64) 3 w13 w.heap.size (fun _ => True) (.slice (some ⟨go10, 0, none⟩) x7_1.length co11) y314 := (by rw [hw, Ny314.out]; exact HP12.1); clear HP12; replace HO_7 := mk0 (hp_); replace HB := mk0 ((by rw [hw]; exact below_set (HB.out) GB10.out : Below w.heap.size w w13)); clear hg hw hp_)))
       go_roundg k1
       case measure => have := HK1.out; omega
       case rel => exact ⟨(y314), (wrap64 (x8_1 + 1)), (by first | rfl | (simp; done) | (simp [*]; done)), H', ⟨by have := HK1.out; omega⟩, ⟨by (with_reducible repeat (first | apply Ra_ | apply Rn_ | apply Rd_)); exact HO_7.out⟩, ⟨by with_reducible repeat (first | exact HB.out | apply ba_ | apply bn_ | apply bd_)⟩⟩
      ·
       rw [if_neg c9] at H
       exact nn_ H
     ·
      rw [if_neg c8] at H
      have c8b0 : decide (x8_1 < (x7_1.length : Int)) = false := decide_eq_false c8
      clear c8
      have H' := mk0 H
      clear H
      obtain ⟨Ao14, co14, eo14⟩ := Kd.R_slice HO_7.out
      subst eo14
      go_wp2
      repeat (go_quiet (fail); try go_wp2)
      go_loopg [9] k1 (fun kq v9 w' => ∃ (x7_2 : List Int) (x9_2 : Int), v9 = .int .i64 x9_2 ∧ Aside0 (spec_plan.l1 kq l0 l1 a2 x7_2 x9_2 = some r) ∧ Aside0 (kq ≤ k1) ∧ Aside0 (Kd.R (Kd.int .i64) 3 w' w.heap.size (fun _ => True) (.slice Ao14 x7_1.length co14) x7_2) ∧ Aside0 (Below w.heap.size w w'))
      case atStart => exact ⟨(x7_1), (0), (by first | rfl | (simp; done) | (simp [*]; done)), H', ⟨Nat.le_refl _⟩, ⟨by (with_reducible repeat (first | apply Ra_ | apply Rn_ | apply Rd_)); exact HO_7.out⟩, ⟨by with_reducible repeat (first | exact HB.out | apply ba_ | apply bn_ | apply bd_)⟩⟩
      case round =>
       clear H'
       try clear c1
       try clear p1
       try clear q1
       try clear hx1
       try clear p2
       try clear c4
       try clear c4b0
       try clear c4b1
       try clear c5
       try clear c5b0
       try clear c5b1
       try clear p6
       try clear c8
       try clear c8b0
       try clear c9
       try clear c9b0
       try clear p10
       try clear q10
       try clear hx10
       try clear hf10
       try clear hx10_0
       try clear p10
       try clear p2
       try clear q10
       obtain ⟨x7_2, x9_2, rfl, HA, HK2, HO_7, HB⟩ := hrel
       have hl7_2 := (Kd.R_reads' HO_7.out).1
       rw [hl7_2] at HO_7
       (try simp only [hl7_2])
       cases gk with
       | zero => exact absurd HA.out (by simp [spec_plan.l1])
       | succ k2 =>
        have H := HA.out
        clear HA
        simp only [spec_plan.l1] at H
        by_cases c15 : x9_2 < 200
        ·
         rw [if_pos c15] at H
         have c15b0 : decide (x9_2 < 200) = true := decide_eq_true c15
         clear c15
         obtain ⟨y315, hy315⟩ : ∃ y_ : List Int, y_ = (([] : List Int)) := ⟨_, rfl⟩
         replace H : (spec_plan.l2 k2 l0 l1 a2 x7_2 x9_2 y315 0) = some r := by first | (rw [hy315]; with_reducible exact H) | (rw [hy315]; exact (Option.bind_some _ _).symm.trans H) | (rw [hy315]; exact H) | exact H
         have Ny315 := mk0 hy315
         clear hy315
         have H' := mk0 H
         clear H
         go_wp2_with (first | ((with_reducible refine gate_dst (N := 33) rfl ?_); refine Kd.R_lit (Kd.int .i64) _ 3 ?hg (N := 33) ?hd (xs := ([] : List Int)) (inner := []) (ok := fun _ => True) (okp := fun _ => True) ?hr ?hp (fun _ hk => hk) trivial (Below.refl _ _) (Nat.le_refl _) (by simp) ?_; (case hd => rfl); (case hg => rfl); (case hr => first | (go_simp; done) | (go_simp; rfl)); (case hp => exact (Reps.none _ _)); intro v316 w16 ho17 hb hg_ hnew_; clear hg_ hnew_; (first | rw [← Ny315.out] at ho17 | (simp only [Int.reduceToNat] at ho17; rw [← Ny315.out] at ho17)); have HO317 := mk0 (Kd.R_lower (Kd.R_new' ho17 (Kd.R_lt (by (with_reducible repeat (first | apply Ra_ | apply Rn_ | apply Rd_)); exact HO_7.out))) (below_size (by with_reducible repeat (first | exact HB.out | apply ba_ | apply bn_ | apply bd_)))); replace HO_7 := mk0 (Kd.R_elder' (by (with_reducible repeat (first | apply Ra_ | apply Rn_ | apply Rd_)); exact HO_7.out) (Kd.R_base ho17) hb); replace HB := mk0 (below_step (by with_reducible repeat (first | exact HB.out | apply ba_ | apply bn_ | apply bd_)) hb); clear hb ho17))
         repeat (go_quiet (first | ((with_reducible refine gate_dst (N := 33) rfl ?_); refine Kd.R_lit (Kd.int .i64) _ 3 ?hg (N := 33) ?hd (xs := ([] : List Int)) (inner := []) (ok := fun _ => True) (okp := fun _ => True) ?hr ?hp (fun _ hk => hk) trivial (Below.refl _ _) (Nat.le_refl _) (by simp) ?_; (case hd => rfl); (case hg => rfl); (case hr => first | (go_simp; done) | (go_simp; rfl)); (case hp => exact (Reps.none _ _)); intro v316 w16 ho17 hb hg_ hnew_; clear hg_ hnew_; (first | rw [← Ny315.out] at ho17 | (simp only [Int.reduceToNat] at ho17; rw [← Ny315.out] at ho17)); have HO317 := mk0 (Kd.R_lower (Kd.R_new' ho17 (Kd.R_lt (by (with_reducible repeat (first | apply Ra_ | apply Rn_ | apply Rd_)); exact HO_7.out))) (below_size (by with_reducible repeat (first | exact HB.out | apply ba_ | apply bn_ | apply bd_)))); replace HO_7 := mk0 (Kd.R_elder' (by (with_reducible repeat (first | apply Ra_ | apply Rn_ | apply Rd_)); exact HO_7.out) (Kd.R_base ho17) hb); replace HB := mk0 (below_step (by with_reducible repeat (first | exact HB.out | apply ba_ | apply bn_ | apply bd_)) hb); clear hb ho17)); try go_wp2_with (first | ((with_reducible refine gate_dst (N := 33) rfl ?_); refine Kd.R_lit (Kd.int .i64) _ 3 ?hg (N := 33) ?hd (xs := ([] : List Int)) (inner := []) (ok := fun _ => True) (okp := fun _ => True) ?hr ?hp (fun _ hk => hk) trivial (Below.refl _ _) (Nat.le_refl _) (by simp) ?_; (case hd => rfl); (case hg => rfl); (case hr => first | (go_simp; done) | (go_simp; rfl)); (case hp => exact (Reps.none _ _)); intro v316 w16 ho17 hb hg_ hnew_; clear hg_ hnew_; (first | rw [← Ny315.out] at ho17 | (simp only [Int.reduceToNat] at ho17; rw [← Ny315.out] at ho17)); have HO317 := mk0 (Kd.R_lower (Kd.R_new' ho17 (Kd.R_lt (by (with_reducible repeat (first | apply Ra_ | apply Rn_ | apply Rd_)); exact HO_7.out))) (below_size (by with_reducible repeat (first | exact HB.out | apply ba_ | apply bn_ | apply bd_)))); replace HO_7 := mk0 (Kd.R_elder' (by (with_reducible repeat (first | apply Ra_ | apply Rn_ | apply Rd_)); exact HO_7.out) (Kd.R_base ho17) hb); replace HB := mk0 (below_step (by with_reducible repeat (first | exact HB.out | apply ba_ | apply bn_ | apply bd_)) hb); clear hb ho17)))
         go_loopg [10, 11] k2 (fun kq v10 v11 w' => ∃ (x10_3 : List Int) (x11_3 : Int), v11 = .int .i64 x11_3 ∧ Aside0 (spec_plan.l2 kq l0 l1 a2 x7_2 x9_2 x10_3 x11_3 = some r) ∧ Aside0 (kq ≤ k2) ∧ Aside0 (Kd.R (Kd.int .i64) 3 w' w.heap.size (fun k_ => some k_ ≠ (v10 : Value).ownBlock) (.slice Ao14 x7_2.length co14) x7_2) ∧ Aside0 (Kd.R (Kd.int .i64) 3 w' w.heap.size (fun k_ => some k_ ≠ ((.slice Ao14 x7_2.length co14) : Value).ownBlock) v10 x10_3) ∧ Aside0 (Below w.heap.size w w'))
         case atStart => exact ⟨(y315), (0), (by first | rfl | (simp; done) | (simp [*]; done)), H', ⟨Nat.le_refl _⟩, ⟨by (try simp only [hl7_2]); (with_reducible repeat (first | apply Ra_ | apply Rn_ | apply Rd_)); exact Kd.R_mono HO_7.out (fun _ hk => hk.2)⟩, ⟨by (try simp only [hl7_2]); (with_reducible repeat (first | apply Ra_ | apply Rn_ | apply Rd_)); exact Kd.R_mono HO317.out (fun _ hk => hk.2)⟩, ⟨by with_reducible repeat (first | exact HB.out | apply ba_ | apply bn_ | apply bd_)⟩⟩
         case round =>
          clear H'
          try clear c1
          try clear p1
          try clear q1
          try clear hx1
          try clear p2
          try clear c4
          try clear c4b0
          try clear c4b1
          try clear c5
          try clear c5b0
          try clear c5b1
          try clear p6
          try clear c8
          try clear c8b0
          try clear c9
          try clear c9b0
          try clear p10
          try clear q10
          try clear hx10
          try clear hf10
          try clear c15
          try clear c15b0
          try clear hx10_0
          try clear p1
          try clear p10
          try clear p2
          try clear p6
          try clear q1
          try clear q10
          obtain ⟨x10_3, x11_3, rfl, HA, HK3, HO_7, HO_10, HB⟩ := hrel
          cases gk with
          | zero => exact absurd HA.out (by simp [spec_plan.l2])
          | succ k3 =>
           have H := HA.out
           clear HA
           simp only [spec_plan.l2] at H
           by_cases c18 : x11_3 < (l0.length : Int)
           ·
            rw [if_pos c18] at H
            have c18b0 : decide (x11_3 < (l0.length : Int)) = true := decide_eq_true c18
            clear c18
            by_cases c19 : 0 ≤ x11_3
            ·
             rw [if_pos c19] at H
             have c19b0 : decide (0 ≤ x11_3) = true := decide_eq_true c19
             clear c19
             by_cases c20 : x11_3 < (x7_2.length : Int)
             ·
              rw [if_pos c20] at H
              have c20b0 : decide (x11_3 < (x7_2.length : Int)) = true := decide_eq_true c20
              clear c20
              by_cases c21 : (wrap64 ((rd x7_2 x11_3) + ((rd_T41 l0 x11_3).f0))) ≤ x9_2
              ·
               rw [if_pos c21] at H
               have c21b0 : decide ((wrap64 ((rd x7_2 x11_3) + ((rd_T41 l0 x11_3).f0))) ≤ x9_2) = true := decide_eq_true c21
               clear c21
               by_cases c22 : x10_3.length < 17592186044416
               ·
                rw [if_pos c22] at H
                have LMc22 := mk0 c22
                clear c22
                obtain ⟨y320, hy320⟩ : ∃ y_ : List Int, y_ = (x10_3 ++ [x11_3]) := ⟨_, rfl⟩
                replace H : (spec_plan.l2 k3 l0 l1 a2 x7_2 x9_2 y320 (wrap64 (x11_3 + 1))) = some r := by first | (rw [hy320]; with_reducible exact H) | (rw [hy320]; exact (Option.bind_some _ _).symm.trans H) | (rw [hy320]; exact H) | exact H
                have Ny320 := mk0 hy320
                clear hy320
                have H' := mk0 H
                clear H
                have p318 : 0 ≤ (x11_3 : Int) := od_ (by with_reducible assumption)
                have q318 : x11_3 < (x7_2.length : Int) := od_ (by with_reducible assumption)
                obtain ⟨ad318, e318, hx318_0⟩ := Kd.at_int (Kd.R_reads' HO_7.out).2.2 x11_3 p318 q318
                cases e318
                replace p318 := eq_true p318
                replace q318 := eq_true q318
                have p319 : 0 ≤ (x11_3 : Int) := od_ (by with_reducible assumption)
                have q319 : x11_3 < (l0.length : Int) := od_ (by with_reducible assumption)
                obtain ⟨ad319, A319_1, c319_1, e319, hx319_0, hx319_1, hx319_2, hx319_3, hl319_1, hi319_1⟩ := at_T41 HR0.out x11_3 p319 q319
                cases e319
                replace hx319_0 := (HB.out.cell (World.block_lt_of_cell? w _ hx319_0)).trans hx319_0
                replace hx319_1 := (HB.out.cell (World.block_lt_of_cell? w _ hx319_1)).trans hx319_1
                replace hx319_2 := (HB.out.cell (World.block_lt_of_cell? w _ hx319_2)).trans hx319_2
                replace hx319_3 := (HB.out.cell (World.block_lt_of_cell? w _ hx319_3)).trans hx319_3
                have HR319_1 := mk0 hi319_1
                have HC319_1 := mk0 hl319_1
                clear hi319_1 hl319_1
                replace p319 := eq_true p319
                replace q319 := eq_true q319
                go_wp2_with (first | ((with_reducible refine gate_builtin (b := .append) (xs := #[.tmp 52, .tmp 54]) rfl ?_); at_builtin; refine Kd.R_append (Kd.int .i64) (w0 := w) w.heap.size rfl (.tmp 52) (.tmp 54) 23 3 (.int .i64 0) 8 rfl Tryd.underlying23 info3 rfl (by decide) (by omega) u10 x10_3 x11_3 [.int .i64 x11_3] (fun k_ => some k_ ≠ (.slice (some ad318) x7_2.length co14 : Value).ownBlock) (fun _ => False) rfl rfl ?aP (fun _ hk => hk.elim) ?aF ?aO ?aB ?aS ?aL ?_; (case aP => exact rfl); (case aB => exact (by with_reducible repeat (first | exact HB.out | apply ba_ | apply bn_ | apply bd_))); (case aF => exact (fun k_ hk => Kd.fresh' (Kd.R_lt (by (with_reducible repeat (first | apply Ra_ | apply Rn_ | apply Rd_)); exact HO_7.out)) k_ hk)); (case aO => exact (by (with_reducible repeat (first | apply Ra_ | apply Rn_ | apply Rd_)); exact HO_10.out)); (case aS => exact (below_size (by with_reducible repeat (first | exact HB.out | apply ba_ | apply bn_ | apply bd_)))); (case aL => have := LMc22.out; omega); intro v321 w23 ho hb hg hat; rw [← Ny320.out] at ho; replace HO_7 := mk0 (Kd.R_after (ok := (fun _ => True)) (by (with_reducible repeat (first | apply Ra_ | apply Rn_ | apply Rd_)); exact Kd.R_mono HO_7.out (fun _ hk => ⟨trivial, hk⟩)) hg hat); replace HB := mk0 (hb); have HO322 := mk0 (ho); clear HO_10; clear ho hb hg hat))
                repeat (go_quiet (first | ((with_reducible refine gate_builtin (b := .append) (xs := #[.tmp 52, .tmp 54]) rfl ?_); at_builtin; refine Kd.R_append (Kd.int .i64) (w0 := w) w.heap.size rfl (.tmp 52) (.tmp 54) 23 3 (.int .i64 0) 8 rfl Tryd.underlying23 info3 rfl (by decide) (by omega) u10 x10_3 x11_3 [.int .i64 x11_3] (fun k_ => some k_ ≠ (.slice (some ad318) x7_2.length co14 : Value).ownBlock) (fun _ => False) rfl rfl ?aP (fun _ hk => hk.elim) ?aF ?aO ?aB ?aS ?aL ?_; (case aP => exact rfl); (case aB => exact (by with_reducible repeat (first | exact HB.out | apply ba_ | apply bn_ | apply bd_))); (case aF => exact (fun k_ hk => Kd.fresh' (Kd.R_lt (by (with_reducible repeat (first | apply Ra_ | apply Rn_ | apply Rd_)); exact HO_7.out)) k_ hk)); (case aO => exact (by (with_reducible repeat (first | apply Ra_ | apply Rn_ | apply Rd_)); exact HO_10.out)); (case aS => exact (below_size (by with_reducible repeat (first | exact HB.out | apply ba_ | apply bn_ | apply bd_)))); (case aL => have := LMc22.out; omega); intro v321 w23 ho hb hg hat; rw [← Ny320.out] at ho; replace HO_7 := mk0 (Kd.R_after (ok := (fun _ => True)) (by (with_reducible repeat (first | apply Ra_ | apply Rn_ | apply Rd_)); exact Kd.R_mono HO_7.out (fun _ hk => ⟨trivial, hk⟩)) hg hat); replace HB := mk0 (hb); have HO322 := mk0 (ho); clear HO_10; clear ho hb hg hat)); try go_wp2_with (first | ((with_reducible refine gate_builtin (b := .append) (xs := #[.tmp 52, .tmp 54]) rfl ?_); at_builtin; refine Kd.R_append (Kd.int .i64) (w0 := w) w.heap.size rfl (.tmp 52) (.tmp 54) 23 3 (.int .i64 0) 8 rfl Tryd.underlying23 info3 rfl (by decide) (by omega) u10 x10_3 x11_3 [.int .i64 x11_3] (fun k_ => some k_ ≠ (.slice (some ad318) x7_2.length co14 : Value).ownBlock) (fun _ => False) rfl rfl ?aP (fun _ hk => hk.elim) ?aF ?aO ?aB ?aS ?aL ?_; (case aP => exact rfl); (case aB => exact (by with_reducible repeat (first | exact HB.out | apply ba_ | apply bn_ | apply bd_))); (case aF => exact (fun k_ hk => Kd.fresh' (Kd.R_lt (by (with_reducible repeat (first | apply Ra_ | apply Rn_ | apply Rd_)); exact HO_7.out)) k_ hk)); (case aO => exact (by (with_reducible repeat (first | apply Ra_ | apply Rn_ | apply Rd_)); exact HO_10.out)); (case aS => exact (below_size (by with_reducible repeat (first | exact HB.out | apply ba_ | apply bn_ | apply bd_)))); (case aL => have := LMc22.out; omega); intro v321 w23 ho hb hg hat; rw [← Ny320.out] at ho; replace HO_7 := mk0 (Kd.R_after (ok := (fun _ => True)) (by (with_reducible repeat (first | apply Ra_ | apply Rn_ | apply Rd_)); exact Kd.R_mono HO_7.out (fun _ hk => ⟨trivial, hk⟩)) hg hat); replace HB := mk0 (hb); have HO322 := mk0 (ho); clear HO_10; clear ho hb hg hat)))
                go_roundg k3
                case measure => have := HK1.out; have := HK2.out; have := HK3.out; omega
                case rel => exact ⟨(y320), (wrap64 (x11_3 + 1)), (by first | rfl | (simp; done) | (simp [*]; done)), H', ⟨by have := HK1.out; have := HK2.out; have := HK3.out; omega⟩, ⟨by (try simp only [hl7_2]); (with_reducible repeat (first | apply Ra_ | apply Rn_ | apply Rd_)); exact Kd.R_mono HO_7.out (fun _ hk => hk.2)⟩, ⟨by (try simp only [hl7_2]); (with_reducible repeat (first | apply Ra_ | apply Rn_ | apply Rd_)); exact HO322.out⟩, ⟨by with_reducible repeat (first | exact HB.out | apply ba_ | apply bn_ | apply bd_)⟩⟩
               ·
                rw [if_neg c22] at H
                exact nn_ H
              ·
               rw [if_neg c21] at H
               have c21b0 : decide ((wrap64 ((rd x7_2 x11_3) + ((rd_T41 l0 x11_3).f0))) ≤ x9_2) = false := decide_eq_false c21
               clear c21
               have H' := mk0 H
               clear H
               have p318 : 0 ≤ (x11_3 : Int) := od_ (by with_reducible assumption)
               have q318 : x11_3 < (x7_2.length : Int) := od_ (by with_reducible assumption)
               obtain ⟨ad318, e318, hx318_0⟩ := Kd.at_int (Kd.R_reads' HO_7.out).2.2 x11_3 p318 q318
               cases e318
               replace p318 := eq_true p318
               replace q318 := eq_true q318
               have p319 : 0 ≤ (x11_3 : Int) := od_ (by with_reducible assumption)
               have q319 : x11_3 < (l0.length : Int) := od_ (by with_reducible assumption)
               obtain ⟨ad319, A319_1, c319_1, e319, hx319_0, hx319_1, hx319_2, hx319_3, hl319_1, hi319_1⟩ := at_T41 HR0.out x11_3 p319 q319
               cases e319
               replace hx319_0 := (HB.out.cell (World.block_lt_of_cell? w _ hx319_0)).trans hx319_0
               replace hx319_1 := (HB.out.cell (World.block_lt_of_cell? w _ hx319_1)).trans hx319_1
               replace hx319_2 := (HB.out.cell (World.block_lt_of_cell? w _ hx319_2)).trans hx319_2
               replace hx319_3 := (HB.out.cell (World.block_lt_of_cell? w _ hx319_3)).trans hx319_3
               have HR319_1 := mk0 hi319_1
               have HC319_1 := mk0 hl319_1
               clear hi319_1 hl319_1
               replace p319 := eq_true p319
               replace q319 := eq_true q319
               go_wp2
               repeat (go_quiet (fail); try go_wp2)
               go_roundg k3
               case measure => have := HK1.out; have := HK2.out; have := HK3.out; omega
               case rel => exact ⟨(x10_3), (wrap64 (x11_3 + 1)), (by first | rfl | (simp; done) | (simp [*]; done)), H', ⟨by have := HK1.out; have := HK2.out; have := HK3.out; omega⟩, ⟨by (try simp only [hl7_2]); (with_reducible repeat (first | apply Ra_ | apply Rn_ | apply Rd_)); exact HO_7.out⟩, ⟨by (try simp only [hl7_2]); (with_reducible repeat (first | apply Ra_ | apply Rn_ | apply Rd_)); exact HO_10.out⟩, ⟨by with_reducible repeat (first | exact HB.out | apply ba_ | apply bn_ | apply bd_)⟩⟩
             ·
              rw [if_neg c20] at H
              exact nn_ H
            ·
             rw [if_neg c19] at H
             exact nn_ H
           ·
            rw [if_neg c18] at H
            have c18b0 : decide (x11_3 < (l0.length : Int)) = false := decide_eq_false c18
            clear c18
            obtain ⟨y323, hy323⟩ : ∃ y_ : List Int, y_ = (([] : List Int)) := ⟨_, rfl⟩
            replace H : ((spec_ready.f k3 l0 x10_3).bind fun t326 => (spec_plan.l3 k3 l0 l1 a2 x7_2 x9_2 y323 t326 0)) = some r := by first | (rw [hy323]; with_reducible exact H) | (rw [hy323]; exact (Option.bind_some _ _).symm.trans H) | (rw [hy323]; exact H) | exact H
            have Ny323 := mk0 hy323
            clear hy323
            replace H := bE_ H
            obtain ⟨t326, A240, H⟩ := H
            have A24 := mk0 A240
            clear A240
            have H' := mk0 H
            clear H
            go_wp2_with (first | ((with_reducible refine gate_dst (N := 56) rfl ?_); refine Kd.R_lit (Kd.int .i64) _ 3 ?hg (N := 56) ?hd (xs := ([] : List Int)) (inner := []) (ok := fun _ => True) (okp := fun _ => True) ?hr ?hp (fun _ hk => hk) trivial (Below.refl _ _) (Nat.le_refl _) (by simp) ?_; (case hd => rfl); (case hg => rfl); (case hr => first | (go_simp; done) | (go_simp; rfl)); (case hp => exact (Reps.none _ _)); intro v324 w25 ho26 hb hg_ hnew_; clear hg_ hnew_; (first | rw [← Ny323.out] at ho26 | (simp only [Int.reduceToNat] at ho26; rw [← Ny323.out] at ho26)); have HO325 := mk0 (Kd.R_lower (Kd.R_new' (Kd.R_new' ho26 (Kd.R_lt (by (with_reducible repeat (first | apply Ra_ | apply Rn_ | apply Rd_)); exact HO_7.out))) (Kd.R_lt (by (with_reducible repeat (first | apply Ra_ | apply Rn_ | apply Rd_)); exact HO_10.out))) (below_size (by with_reducible repeat (first | exact HB.out | apply ba_ | apply bn_ | apply bd_)))); replace HO_7 := mk0 (Kd.R_elder' (by (with_reducible repeat (first | apply Ra_ | apply Rn_ | apply Rd_)); exact HO_7.out) (Kd.R_base ho26) hb); replace HO_10 := mk0 (Kd.R_elder' (by (with_reducible repeat (first | apply Ra_ | apply Rn_ | apply Rd_)); exact HO_10.out) (Kd.R_base ho26) hb); replace HB := mk0 (below_step (by with_reducible repeat (first | exact HB.out | apply ba_ | apply bn_ | apply bd_)) hb); clear hb ho26; obtain ⟨Ao27, co27, eo27⟩ := Kd.R_slice HO_10.out; subst eo27) | (go_at_call 86; (with_reducible refine (spec_ready.calls k3 _ _ l0 _ _ x10_3 t326 _ ?side1 ?side2 ?side3 ?side4 A24.out).mono ?_); (case side1 => repeat (first | exact (Kd.C_below HR0.out HB.out) | (with_reducible first | refine Ca_ ?_ _ | refine Cn_ ?_ _ | refine Cd_ ?_))); (case side2 => exact HC0.out); (case side3 => repeat (first | exact (Kd.R_reads' HO_10.out).2.2 | (with_reducible first | refine Ca_ ?_ _ | refine Cn_ ?_ _ | refine Cd_ ?_))); (case side4 => exact (Kd.R_reads' HO_10.out).2.1); rintro e w28 ⟨v327, rfl, ho0, hb⟩; have HO328 := mk0 (Kd.R_lower (Kd.R_new' (Kd.R_new' (Kd.R_new' ho0 (Kd.R_lt (by (with_reducible repeat (first | apply Ra_ | apply Rn_ | apply Rd_)); exact HO_7.out))) (Kd.R_lt (by (with_reducible repeat (first | apply Ra_ | apply Rn_ | apply Rd_)); exact HO_10.out))) (Kd.R_lt (by (with_reducible repeat (first | apply Ra_ | apply Rn_ | apply Rd_)); exact HO325.out))) (below_size (by with_reducible repeat (first | exact HB.out | apply ba_ | apply bn_ | apply bd_)))); replace HO_7 := mk0 (Kd.R_elder' (by (with_reducible repeat (first | apply Ra_ | apply Rn_ | apply Rd_)); exact HO_7.out) (Kd.R_base ho0) hb); replace HO_10 := mk0 (Kd.R_elder' (by (with_reducible repeat (first | apply Ra_ | apply Rn_ | apply Rd_)); exact HO_10.out) (Kd.R_base ho0) hb); replace HO325 := mk0 (Kd.R_elder' (by (with_reducible repeat (first | apply Ra_ | apply Rn_ | apply Rd_)); exact HO325.out) (Kd.R_base ho0) hb); replace HB := mk0 (below_step (by with_reducible repeat (first | exact HB.out | apply ba_ | apply bn_ | apply bd_)) hb); clear hb ho0))
            repeat (go_quiet (first | ((with_reducible refine gate_dst (N := 56) rfl ?_); refine Kd.R_lit (Kd.int .i64) _ 3 ?hg (N := 56) ?hd (xs := ([] : List Int)) (inner := []) (ok := fun _ => True) (okp := fun _ => True) ?hr ?hp (fun _ hk => hk) trivial (Below.refl _ _) (Nat.le_refl _) (by simp) ?_; (case hd => rfl); (case hg => rfl); (case hr => first | (go_simp; done) | (go_simp; rfl)); (case hp => exact (Reps.none _ _)); intro v324 w25 ho26 hb hg_ hnew_; clear hg_ hnew_; (first | rw [← Ny323.out] at ho26 | (simp only [Int.reduceToNat] at ho26; rw [← Ny323.out] at ho26)); have HO325 := mk0 (Kd.R_lower (Kd.R_new' (Kd.R_new' ho26 (Kd.R_lt (by (with_reducible repeat (first | apply Ra_ | apply Rn_ | apply Rd_)); exact HO_7.out))) (Kd.R_lt (by (with_reducible repeat (first | apply Ra_ | apply Rn_ | apply Rd_)); exact HO_10.out))) (below_size (by with_reducible repeat (first | exact HB.out | apply ba_ | apply bn_ | apply bd_)))); replace HO_7 := mk0 (Kd.R_elder' (by (with_reducible repeat (first | apply Ra_ | apply Rn_ | apply Rd_)); exact HO_7.out) (Kd.R_base ho26) hb); replace HO_10 := mk0 (Kd.R_elder' (by (with_reducible repeat (first | apply Ra_ | apply Rn_ | apply Rd_)); exact HO_10.out) (Kd.R_base ho26) hb); replace HB := mk0 (below_step (by with_reducible repeat (first | exact HB.out | apply ba_ | apply bn_ | apply bd_)) hb); clear hb ho26; obtain ⟨Ao27, co27, eo27⟩ := Kd.R_slice HO_10.out; subst eo27) | (go_at_call 86; (with_reducible refine (spec_ready.calls k3 _ _ l0 _ _ x10_3 t326 _ ?side1 ?side2 ?side3 ?side4 A24.out).mono ?_); (case side1 => repeat (first | exact (Kd.C_below HR0.out HB.out) | (with_reducible first | refine Ca_ ?_ _ | refine Cn_ ?_ _ | refine Cd_ ?_))); (case side2 => exact HC0.out); (case side3 => repeat (first | exact (Kd.R_reads' HO_10.out).2.2 | (with_reducible first | refine Ca_ ?_ _ | refine Cn_ ?_ _ | refine Cd_ ?_))); (case side4 => exact (Kd.R_reads' HO_10.out).2.1); rintro e w28 ⟨v327, rfl, ho0, hb⟩; have HO328 := mk0 (Kd.R_lower (Kd.R_new' (Kd.R_new' (Kd.R_new' ho0 (Kd.R_lt (by (with_reducible repeat (first | apply Ra_ | apply Rn_ | apply Rd_)); exact HO_7.out))) (Kd.R_lt (by (with_reducible repeat (first | apply Ra_ | apply Rn_ | apply Rd_)); exact HO_10.out))) (Kd.R_lt (by (with_reducible repeat (first | apply Ra_ | apply Rn_ | apply Rd_)); exact HO325.out))) (below_size (by with_reducible repeat (first | exact HB.out | apply ba_ | apply bn_ | apply bd_)))); replace HO_7 := mk0 (Kd.R_elder' (by (with_reducible repeat (first | apply Ra_ | apply Rn_ | apply Rd_)); exact HO_7.out) (Kd.R_base ho0) hb); replace HO_10 := mk0 (Kd.R_elder' (by (with_reducible repeat (first | apply Ra_ | apply Rn_ | apply Rd_)); exact HO_10.out) (Kd.R_base ho0) hb); replace HO325 := mk0 (Kd.R_elder' (by (with_reducible repeat (first | apply Ra_ | apply Rn_ | apply Rd_)); exact HO325.out) (Kd.R_base ho0) hb); replace HB := mk0 (below_step (by with_reducible repeat (first | exact HB.out | apply ba_ | apply bn_ | apply bd_)) hb); clear hb ho0)); try go_wp2_with (first | ((with_reducible refine gate_dst (N := 56) rfl ?_); refine Kd.R_lit (Kd.int .i64) _ 3 ?hg (N := 56) ?hd (xs := ([] : List Int)) (inner := []) (ok := fun _ => True) (okp := fun _ => True) ?hr ?hp (fun _ hk => hk) trivial (Below.refl _ _) (Nat.le_refl _) (by simp) ?_; (case hd => rfl); (case hg => rfl); (case hr => first | (go_simp; done) | (go_simp; rfl)); (case hp => exact (Reps.none _ _)); intro v324 w25 ho26 hb hg_ hnew_; clear hg_ hnew_; (first | rw [← Ny323.out] at ho26 | (simp only [Int.reduceToNat] at ho26; rw [← Ny323.out] at ho26)); have HO325 := mk0 (Kd.R_lower (Kd.R_new' (Kd.R_new' ho26 (Kd.R_lt (by (with_reducible repeat (first | apply Ra_ | apply Rn_ | apply Rd_)); exact HO_7.out))) (Kd.R_lt (by (with_reducible repeat (first | apply Ra_ | apply Rn_ | apply Rd_)); exact HO_10.out))) (below_size (by with_reducible repeat (first | exact HB.out | apply ba_ | apply bn_ | apply bd_)))); replace HO_7 := mk0 (Kd.R_elder' (by (with_reducible repeat (first | apply Ra_ | apply Rn_ | apply Rd_)); exact HO_7.out) (Kd.R_base ho26) hb); replace HO_10 := mk0 (Kd.R_elder' (by (with_reducible repeat (first | apply Ra_ | apply Rn_ | apply Rd_)); exact HO_10.out) (Kd.R_base ho26) hb); replace HB := mk0 (below_step (by with_reducible repeat (first | exact HB.out | apply ba_ | apply bn_ | apply bd_)) hb); clear hb ho26; obtain ⟨Ao27, co27, eo27⟩ := Kd.R_slice HO_10.out; subst eo27) | (go_at_call 86; (with_reducible refine (spec_ready.calls k3 _ _ l0 _ _ x10_3 t326 _ ?side1 ?side2 ?side3 ?side4 A24.out).mono ?_); (case side1 => repeat (first | exact (Kd.C_below HR0.out HB.out) | (with_reducible first | refine Ca_ ?_ _ | refine Cn_ ?_ _ | refine Cd_ ?_))); (case side2 => exact HC0.out); (case side3 => repeat (first | exact (Kd.R_reads' HO_10.out).2.2 | (with_reducible first | refine Ca_ ?_ _ | refine Cn_ ?_ _ | refine Cd_ ?_))); (case side4 => exact (Kd.R_reads' HO_10.out).2.1); rintro e w28 ⟨v327, rfl, ho0, hb⟩; have HO328 := mk0 (Kd.R_lower (Kd.R_new' (Kd.R_new' (Kd.R_new' ho0 (Kd.R_lt (by (with_reducible repeat (first | apply Ra_ | apply Rn_ | apply Rd_)); exact HO_7.out))) (Kd.R_lt (by (with_reducible repeat (first | apply Ra_ | apply Rn_ | apply Rd_)); exact HO_10.out))) (Kd.R_lt (by (with_reducible repeat (first | apply Ra_ | apply Rn_ | apply Rd_)); exact HO325.out))) (below_size (by with_reducible repeat (first | exact HB.out | apply ba_ | apply bn_ | apply bd_)))); replace HO_7 := mk0 (Kd.R_elder' (by (with_reducible repeat (first | apply Ra_ | apply Rn_ | apply Rd_)); exact HO_7.out) (Kd.R_base ho0) hb); replace HO_10 := mk0 (Kd.R_elder' (by (with_reducible repeat (first | apply Ra_ | apply Rn_ | apply Rd_)); exact HO_10.out) (Kd.R_base ho0) hb); replace HO325 := mk0 (Kd.R_elder' (by (with_reducible repeat (first | apply Ra_ | apply Rn_ | apply Rd_)); exact HO325.out) (Kd.R_base ho0) hb); replace HB := mk0 (below_step (by with_reducible repeat (first | exact HB.out | apply ba_ | apply bn_ | apply bd_)) hb); clear hb ho0)))
            go_loopg [12, 14] k3 (fun kq v12 v14 w' => ∃ (x12_4 : List Int) (x14_4 : Int), v14 = .int .i64 x14_4 ∧ Aside0 (spec_plan.l3 kq l0 l1 a2 x7_2 x9_2 x12_4 t326 x14_4 = some r) ∧ Aside0 (kq ≤ k3) ∧ Aside0 (Kd.R (Kd.int .i64) 3 w' w.heap.size (fun k_ => some k_ ≠ (v12 : Value).ownBlock ∧ some k_ ≠ (v327 : Value).ownBlock) (.slice Ao14 x7_2.length co14) x7_2) ∧ Aside0 (Kd.R (Kd.int .i64) 3 w' w.heap.size (fun k_ => some k_ ≠ ((.slice Ao14 x7_2.length co14) : Value).ownBlock ∧ some k_ ≠ (v327 : Value).ownBlock) v12 x12_4) ∧ Aside0 (Kd.R (Kd.int .i64) 3 w' w.heap.size (fun k_ => some k_ ≠ ((.slice Ao14 x7_2.length co14) : Value).ownBlock ∧ some k_ ≠ (v12 : Value).ownBlock) v327 t326) ∧ Aside0 (Below w.heap.size w w'))
            case atStart => exact ⟨(y323), (0), (by first | rfl | (simp; done) | (simp [*]; done)), H', ⟨Nat.le_refl _⟩, ⟨by (try simp only [hl7_2]); (with_reducible repeat (first | apply Ra_ | apply Rn_ | apply Rd_)); exact Kd.R_mono HO_7.out (fun _ hk => ⟨hk.1.2, hk.2⟩)⟩, ⟨by (try simp only [hl7_2]); (with_reducible repeat (first | apply Ra_ | apply Rn_ | apply Rd_)); exact Kd.R_mono HO325.out (fun _ hk => ⟨hk.1.1.2, hk.2⟩)⟩, ⟨by (try simp only [hl7_2]); (with_reducible repeat (first | apply Ra_ | apply Rn_ | apply Rd_)); exact Kd.R_mono HO328.out (fun _ hk => ⟨hk.1.1.2, hk.2⟩)⟩, ⟨by with_reducible repeat (first | exact HB.out | apply ba_ | apply bn_ | apply bd_)⟩⟩
            case round =>
             clear H'
             try clear c1
             try clear p1
             try clear q1
             try clear hx1
             try clear c2
             try clear p2
             try clear c3
             try clear p3
             try clear q3
             try clear hx3
             try clear c4
             try clear c4b0
             try clear c4b1
             try clear c5
             try clear c5b0
             try clear c5b1
             try clear p6
             try clear c8
             try clear c8b0
             try clear c9
             try clear c9b0
             try clear p10
             try clear q10
             try clear hx10
             try clear hf10
             try clear c15
             try clear c15b0
             try clear c18
             try clear c18b0
             try clear c19
             try clear c19b0
             try clear c20
             try clear c20b0
             try clear c21
             try clear c21b0
             try clear c22
             try clear hx10_0
             try clear hx318_0
             try clear hx319_0
             try clear hx319_1
             try clear hx319_2
             try clear hx319_3
             try clear p1
             try clear p10
             try clear p2
             try clear p318
             try clear p319
             try clear p6
             try clear q1
             try clear q10
             try clear q318
             try clear q319
             obtain ⟨x12_4, x14_4, rfl, HA, HK4, HO_7, HO_12, HO_13, HB⟩ := hrel
             cases gk with
             | zero => exact absurd HA.out (by simp [spec_plan.l3])
             | succ k4 =>
              have H := HA.out
              clear HA
              simp only [spec_plan.l3] at H
              by_cases c29 : x14_4 < (t326.length : Int)
              ·
               rw [if_pos c29] at H
               have c29b0 : decide (x14_4 < (t326.length : Int)) = true := decide_eq_true c29
               clear c29
               by_cases c30 : 0 ≤ x14_4
               ·
                rw [if_pos c30] at H
                have c30b0 : decide (0 ≤ x14_4) = true := decide_eq_true c30
                clear c30
                by_cases c31 : 0 ≤ (rd t326 x14_4)
                ·
                 rw [if_pos c31] at H
                 have c31b0 : decide (0 ≤ (rd t326 x14_4)) = true := decide_eq_true c31
                 clear c31
                 by_cases c32 : (rd t326 x14_4) < (x7_2.length : Int)
                 ·
                  rw [if_pos c32] at H
                  have c32b0 : decide ((rd t326 x14_4) < (x7_2.length : Int)) = true := decide_eq_true c32
                  clear c32
                  by_cases c33 : (rd x7_2 (rd t326 x14_4)) = 200
                  ·
                   rw [if_pos c33] at H
                   have c33b0 : ((rd x7_2 (rd t326 x14_4)) == 200) = true := beq_iff_eq.mpr c33
                   have c33b1 : ((rd x7_2 (rd t326 x14_4)) != 200) = false := bne_eq_false_iff_eq.mpr c33
                   clear c33
                   by_cases c34 : x12_4.length < 17592186044416
                   ·
                    rw [if_pos c34] at H
                    have LMc34 := mk0 c34
                    clear c34
                    obtain ⟨y332, hy332⟩ : ∃ y_ : List Int, y_ = (x12_4 ++ [rd t326 x14_4]) := ⟨_, rfl⟩
                    replace H : (spec_plan.l3 k4 l0 l1 a2 x7_2 x9_2 y332 t326 (wrap64 (x14_4 + 1))) = some r := by first | (rw [hy332]; with_reducible exact H) | (rw [hy332]; exact (Option.bind_some _ _).symm.trans H) | (rw [hy332]; exact H) | exact H
                    have Ny332 := mk0 hy332
                    clear hy332
                    have H' := mk0 H
                    clear H
                    obtain ⟨Ao35, co35, eo35⟩ := Kd.R_slice HO_13.out
                    subst eo35
                    have p329 : 0 ≤ (x14_4 : Int) := od_ (by with_reducible assumption)
                    have q329 : x14_4 < (t326.length : Int) := od_ (by with_reducible assumption)
                    obtain ⟨ad329, e329, hx329_0⟩ := Kd.at_int (Kd.R_reads' HO_13.out).2.2 x14_4 p329 q329
                    cases e329
                    replace p329 := eq_true p329
                    replace q329 := eq_true q329
                    have p330 : 0 ≤ ((rd t326 x14_4) : Int) := od_ (by with_reducible assumption)
                    have q330 : (rd t326 x14_4) < (x7_2.length : Int) := od_ (by with_reducible assumption)
                    obtain ⟨ad330, e330, hx330_0⟩ := Kd.at_int (Kd.R_reads' HO_7.out).2.2 (rd t326 x14_4) p330 q330
                    cases e330
                    replace p330 := eq_true p330
                    replace q330 := eq_true q330
                    have p331 : 0 ≤ (x14_4 : Int) := od_ (by with_reducible assumption)
                    have q331 : x14_4 < (t326.length : Int) := od_ (by with_reducible assumption)
                    obtain ⟨ad331, e331, hx331_0⟩ := Kd.at_int (Kd.R_reads' HO_13.out).2.2 x14_4 p331 q331
                    obtain rfl : ad329 = ad331 := (by injection e331)
                    replace p331 := eq_true p331
                    replace q331 := eq_true q331
                    go_wp2_with (first | ((with_reducible refine gate_builtin (b := .append) (xs := #[.tmp 74, .tmp 79]) rfl ?_); at_builtin; refine Kd.R_append (Kd.int .i64) (w0 := w) w.heap.size rfl (.tmp 74) (.tmp 79) 23 3 (.int .i64 0) 8 rfl Tryd.underlying23 info3 rfl (by decide) (by omega) u12 x12_4 (rd t326 x14_4) [.int .i64 (rd t326 x14_4)] (fun k_ => some k_ ≠ (.slice (some ad330) x7_2.length co14 : Value).ownBlock ∧ some k_ ≠ (.slice (some ad329) t326.length co35 : Value).ownBlock) (fun _ => False) rfl rfl ?aP (fun _ hk => hk.elim) ?aF ?aO ?aB ?aS ?aL ?_; (case aP => exact rfl); (case aB => exact (by with_reducible repeat (first | exact HB.out | apply ba_ | apply bn_ | apply bd_))); (case aF => exact (fun k_ hk => ⟨Kd.fresh' (Kd.R_lt (by (with_reducible repeat (first | apply Ra_ | apply Rn_ | apply Rd_)); exact HO_7.out)) k_ hk, Kd.fresh' (Kd.R_lt (by (with_reducible repeat (first | apply Ra_ | apply Rn_ | apply Rd_)); exact HO_13.out)) k_ hk⟩)); (case aO => exact (by (with_reducible repeat (first | apply Ra_ | apply Rn_ | apply Rd_)); exact HO_12.out)); (case aS => exact (below_size (by with_reducible repeat (first | exact HB.out | apply ba_ | apply bn_ | apply bd_)))); (case aL => have := LMc34.out; omega); intro v333 w36 ho hb hg hat; rw [← Ny332.out] at ho; replace HO_7 := mk0 (Kd.R_after (ok := (fun k_ => some k_ ≠ (.slice (some ad329) t326.length co35 : Value).ownBlock)) (by (with_reducible repeat (first | apply Ra_ | apply Rn_ | apply Rd_)); exact Kd.R_mono HO_7.out (fun _ hk => ⟨hk.2, hk.1⟩)) hg hat); replace HO_13 := mk0 (Kd.R_after (ok := (fun k_ => some k_ ≠ (.slice (some ad330) x7_2.length co14 : Value).ownBlock)) (by (with_reducible repeat (first | apply Ra_ | apply Rn_ | apply Rd_)); exact HO_13.out) hg hat); replace HB := mk0 (hb); have HO334 := mk0 (ho); clear HO_12; clear ho hb hg hat))
                    repeat (go_quiet (first | ((with_reducible refine gate_builtin (b := .append) (xs := #[.tmp 74, .tmp 79]) rfl ?_); at_builtin; refine Kd.R_append (Kd.int .i64) (w0 := w) w.heap.size rfl (.tmp 74) (.tmp 79) 23 3 (.int .i64 0) 8 rfl Tryd.underlying23 info3 rfl (by decide) (by omega) u12 x12_4 (rd t326 x14_4) [.int .i64 (rd t326 x14_4)] (fun k_ => some k_ ≠ (.slice (some ad330) x7_2.length co14 : Value).ownBlock ∧ some k_ ≠ (.slice (some ad329) t326.length co35 : Value).ownBlock) (fun _ => False) rfl rfl ?aP (fun _ hk => hk.elim) ?aF ?aO ?aB ?aS ?aL ?_; (case aP => exact rfl); (case aB => exact (by with_reducible repeat (first | exact HB.out | apply ba_ | apply bn_ | apply bd_))); (case aF => exact (fun k_ hk => ⟨Kd.fresh' (Kd.R_lt (by (with_reducible repeat (first | apply Ra_ | apply Rn_ | apply Rd_)); exact HO_7.out)) k_ hk, Kd.fresh' (Kd.R_lt (by (with_reducible repeat (first | apply Ra_ | apply Rn_ | apply Rd_)); exact HO_13.out)) k_ hk⟩)); (case aO => exact (by (with_reducible repeat (first | apply Ra_ | apply Rn_ | apply Rd_)); exact HO_12.out)); (case aS => exact (below_size (by with_reducible repeat (first | exact HB.out | apply ba_ | apply bn_ | apply bd_)))); (case aL => have := LMc34.out; omega); intro v333 w36 ho hb hg hat; rw [← Ny332.out] at ho; replace HO_7 := mk0 (Kd.R_after (ok := (fun k_ => some k_ ≠ (.slice (some ad329) t326.length co35 : Value).ownBlock)) (by (with_reducible repeat (first | apply Ra_ | apply Rn_ | apply Rd_)); exact Kd.R_mono HO_7.out (fun _ hk => ⟨hk.2, hk.1⟩)) hg hat); replace HO_13 := mk0 (Kd.R_after (ok := (fun k_ => some k_ ≠ (.slice (some ad330) x7_2.length co14 : Value).ownBlock)) (by (with_reducible repeat (first | apply Ra_ | apply Rn_ | apply Rd_)); exact HO_13.out) hg hat); replace HB := mk0 (hb); have HO334 := mk0 (ho); clear HO_12; clear ho hb hg hat)); try go_wp2_with (first | ((with_reducible refine gate_builtin (b := .append) (xs := #[.tmp 74, .tmp 79]) rfl ?_); at_builtin; refine Kd.R_append (Kd.int .i64) (w0 := w) w.heap.size rfl (.tmp 74) (.tmp 79) 23 3 (.int .i64 0) 8 rfl Tryd.underlying23 info3 rfl (by decide) (by omega) u12 x12_4 (rd t326 x14_4) [.int .i64 (rd t326 x14_4)] (fun k_ => some k_ ≠ (.slice (some ad330) x7_2.length co14 : Value).ownBlock ∧ some k_ ≠ (.slice (some ad329) t326.length co35 : Value).ownBlock) (fun _ => False) rfl rfl ?aP (fun _ hk => hk.elim) ?aF ?aO ?aB ?aS ?aL ?_; (case aP => exact rfl); (case aB => exact (by with_reducible repeat (first | exact HB.out | apply ba_ | apply bn_ | apply bd_))); (case aF => exact (fun k_ hk => ⟨Kd.fresh' (Kd.R_lt (by (with_reducible repeat (first | apply Ra_ | apply Rn_ | apply Rd_)); exact HO_7.out)) k_ hk, Kd.fresh' (Kd.R_lt (by (with_reducible repeat (first | apply Ra_ | apply Rn_ | apply Rd_)); exact HO_13.out)) k_ hk⟩)); (case aO => exact (by (with_reducible repeat (first | apply Ra_ | apply Rn_ | apply Rd_)); exact HO_12.out)); (case aS => exact (below_size (by with_reducible repeat (first | exact HB.out | apply ba_ | apply bn_ | apply bd_)))); (case aL => have := LMc34.out; omega); intro v333 w36 ho hb hg hat; rw [← Ny332.out] at ho; replace HO_7 := mk0 (Kd.R_after (ok := (fun k_ => some k_ ≠ (.slice (some ad329) t326.length co35 : Value).ownBlock)) (by (with_reducible repeat (first | apply Ra_ | apply Rn_ | apply Rd_)); exact Kd.R_mono HO_7.out (fun _ hk => ⟨hk.2, hk.1⟩)) hg hat); replace HO_13 := mk0 (Kd.R_after (ok := (fun k_ => some k_ ≠ (.slice (some ad330) x7_2.length co14 : Value).ownBlock)) (by (with_reducible repeat (first | apply Ra_ | apply Rn_ | apply Rd_)); exact HO_13.out) hg hat); replace HB := mk0 (hb); have HO334 := mk0 (ho); clear HO_12; clear ho hb hg hat)))
                    go_roundg k4
                    case measure => have := HK1.out; have := HK2.out; have := HK3.out; have := HK4.out; omega
                    case rel => exact ⟨(y332), (wrap64 (x14_4 + 1)), (by first | rfl | (simp; done) | (simp [*]; done)), H', ⟨by have := HK1.out; have := HK2.out; have := HK3.out; have := HK4.out; omega⟩, ⟨by (try simp only [hl7_2]); (with_reducible repeat (first | apply Ra_ | apply Rn_ | apply Rd_)); exact Kd.R_mono HO_7.out (fun _ hk => ⟨hk.2, hk.1⟩)⟩, ⟨by (try simp only [hl7_2]); (with_reducible repeat (first | apply Ra_ | apply Rn_ | apply Rd_)); exact HO334.out⟩, ⟨by (try simp only [hl7_2]); (with_reducible repeat (first | apply Ra_ | apply Rn_ | apply Rd_)); exact HO_13.out⟩, ⟨by with_reducible repeat (first | exact HB.out | apply ba_ | apply bn_ | apply bd_)⟩⟩
                   ·
                    rw [if_neg c34] at H
                    exact nn_ H
                  ·
                   rw [if_neg c33] at H
                   have c33b0 : ((rd x7_2 (rd t326 x14_4)) == 200) = false := beq_eq_false_iff_ne.mpr c33
                   have c33b1 : ((rd x7_2 (rd t326 x14_4)) != 200) = true := bne_iff_ne.mpr c33
                   have H' := mk0 H
                   clear H
                   obtain ⟨Ao37, co37, eo37⟩ := Kd.R_slice HO_13.out
                   subst eo37
                   have p329 : 0 ≤ (x14_4 : Int) := od_ (by with_reducible assumption)
                   have q329 : x14_4 < (t326.length : Int) := od_ (by with_reducible assumption)
                   obtain ⟨ad329, e329, hx329_0⟩ := Kd.at_int (Kd.R_reads' HO_13.out).2.2 x14_4 p329 q329
                   cases e329
                   replace p329 := eq_true p329
                   replace q329 := eq_true q329
                   have p330 : 0 ≤ ((rd t326 x14_4) : Int) := od_ (by with_reducible assumption)
                   have q330 : (rd t326 x14_4) < (x7_2.length : Int) := od_ (by with_reducible assumption)
                   obtain ⟨ad330, e330, hx330_0⟩ := Kd.at_int (Kd.R_reads' HO_7.out).2.2 (rd t326 x14_4) p330 q330
                   cases e330
                   replace p330 := eq_true p330
                   replace q330 := eq_true q330
                   go_wp2
                   repeat (go_quiet (fail); try go_wp2)
                   go_roundg k4
                   case measure => have := HK1.out; have := HK2.out; have := HK3.out; have := HK4.out; omega
                   case rel => exact ⟨(x12_4), (wrap64 (x14_4 + 1)), (by first | rfl | (simp; done) | (simp [*]; done)), H', ⟨by have := HK1.out; have := HK2.out; have := HK3.out; have := HK4.out; omega⟩, ⟨by (try simp only [hl7_2]); (with_reducible repeat (first | apply Ra_ | apply Rn_ | apply Rd_)); exact HO_7.out⟩, ⟨by (try simp only [hl7_2]); (with_reducible repeat (first | apply Ra_ | apply Rn_ | apply Rd_)); exact HO_12.out⟩, ⟨by (try simp only [hl7_2]); (with_reducible repeat (first | apply Ra_ | apply Rn_ | apply Rd_)); exact HO_13.out⟩, ⟨by with_reducible repeat (first | exact HB.out | apply ba_ | apply bn_ | apply bd_)⟩⟩
                 ·
                  rw [if_neg c32] at H
                  exact nn_ H
                ·
                 rw [if_neg c31] at H
                 exact nn_ H
               ·
                rw [if_neg c30] at H
                exact nn_ H
              ·
               rw [if_neg c29] at H
               have c29b0 : decide (x14_4 < (t326.length : Int)) = false := decide_eq_false c29
               clear c29
               replace H := bE_ H
               obtain ⟨t335, A380, H⟩ := H
               have A38 := mk0 A380
               clear A380
               replace H := bE_ H
               obtain ⟨t338, A390, H⟩ := H
               have A39 := mk0 A390
               clear A390
               replace H := bE_ H
               obtain ⟨t341, A400, H⟩ := H
               have A40 := mk0 A400
               clear A400
               have H' := mk0 H
               clear H
               obtain ⟨Ao41, co41, eo41⟩ := Kd.R_slice HO_13.out
               subst eo41
               go_wp2_with (first | (go_at_call 88; (with_reducible refine (spec_runningAt.calls k4 _ _ l0 _ _ x7_2 x9_2 t335 _ ?side1 ?side2 ?side3 ?side4 A38.out).mono ?_); (case side1 => repeat (first | exact (Kd.C_below HR0.out HB.out) | (with_reducible first | refine Ca_ ?_ _ | refine Cn_ ?_ _ | refine Cd_ ?_))); (case side2 => exact HC0.out); (case side3 => repeat (first | exact (Kd.R_reads' HO_7.out).2.2 | (with_reducible first | refine Ca_ ?_ _ | refine Cn_ ?_ _ | refine Cd_ ?_))); (case side4 => exact (Kd.R_reads' HO_7.out).2.1); rintro e w42 ⟨v336, rfl, ho0, hb⟩; have HO337 := mk0 (Kd.R_lower (Kd.R_new' (Kd.R_new' (Kd.R_new' ho0 (Kd.R_lt (by (with_reducible repeat (first | apply Ra_ | apply Rn_ | apply Rd_)); exact HO_7.out))) (Kd.R_lt (by (with_reducible repeat (first | apply Ra_ | apply Rn_ | apply Rd_)); exact HO_12.out))) (Kd.R_lt (by (with_reducible repeat (first | apply Ra_ | apply Rn_ | apply Rd_)); exact HO_13.out))) (below_size (by with_reducible repeat (first | exact HB.out | apply ba_ | apply bn_ | apply bd_)))); replace HO_7 := mk0 (Kd.R_elder' (by (with_reducible repeat (first | apply Ra_ | apply Rn_ | apply Rd_)); exact HO_7.out) (Kd.R_base ho0) hb); replace HO_12 := mk0 (Kd.R_elder' (by (with_reducible repeat (first | apply Ra_ | apply Rn_ | apply Rd_)); exact HO_12.out) (Kd.R_base ho0) hb); replace HO_13 := mk0 (Kd.R_elder' (by (with_reducible repeat (first | apply Ra_ | apply Rn_ | apply Rd_)); exact HO_13.out) (Kd.R_base ho0) hb); replace HB := mk0 (below_step (by with_reducible repeat (first | exact HB.out | apply ba_ | apply bn_ | apply bd_)) hb); clear hb ho0; obtain ⟨Ao43, co43, eo43⟩ := Kd.R_slice HO_12.out; subst eo43) | (go_at_call 89; (with_reducible refine (spec_byTail.calls k4 _ _ l0 _ _ x12_4 t338 _ ?side1 ?side2 ?side3 ?side4 A39.out).mono ?_); (case side1 => repeat (first | exact (Kd.C_below HR0.out HB.out) | (with_reducible first | refine Ca_ ?_ _ | refine Cn_ ?_ _ | refine Cd_ ?_))); (case side2 => exact HC0.out); (case side3 => repeat (first | exact (Kd.R_reads' HO_12.out).2.2 | (with_reducible first | refine Ca_ ?_ _ | refine Cn_ ?_ _ | refine Cd_ ?_))); (case side4 => exact (Kd.R_reads' HO_12.out).2.1); rintro e w44 ⟨v339, rfl, ho0, hb⟩; have HO340 := mk0 (Kd.R_lower (Kd.R_new' (Kd.R_new' (Kd.R_new' (Kd.R_new' ho0 (Kd.R_lt (by (with_reducible repeat (first | apply Ra_ | apply Rn_ | apply Rd_)); exact HO_7.out))) (Kd.R_lt (by (with_reducible repeat (first | apply Ra_ | apply Rn_ | apply Rd_)); exact HO_12.out))) (Kd.R_lt (by (with_reducible repeat (first | apply Ra_ | apply Rn_ | apply Rd_)); exact HO_13.out))) (Kd.R_lt (by (with_reducible repeat (first | apply Ra_ | apply Rn_ | apply Rd_)); exact HO337.out))) (below_size (by with_reducible repeat (first | exact HB.out | apply ba_ | apply bn_ | apply bd_)))); replace HO_7 := mk0 (Kd.R_elder' (by (with_reducible repeat (first | apply Ra_ | apply Rn_ | apply Rd_)); exact HO_7.out) (Kd.R_base ho0) hb); replace HO_12 := mk0 (Kd.R_elder' (by (with_reducible repeat (first | apply Ra_ | apply Rn_ | apply Rd_)); exact HO_12.out) (Kd.R_base ho0) hb); replace HO_13 := mk0 (Kd.R_elder' (by (with_reducible repeat (first | apply Ra_ | apply Rn_ | apply Rd_)); exact HO_13.out) (Kd.R_base ho0) hb); replace HO337 := mk0 (Kd.R_elder' (by (with_reducible repeat (first | apply Ra_ | apply Rn_ | apply Rd_)); exact HO337.out) (Kd.R_base ho0) hb); replace HB := mk0 (below_step (by with_reducible repeat (first | exact HB.out | apply ba_ | apply bn_ | apply bd_)) hb); clear hb ho0; obtain ⟨Ao45, co45, eo45⟩ := Kd.R_slice HO337.out; subst eo45; obtain ⟨Ao46, co46, eo46⟩ := Kd.R_slice HO340.out; subst eo46) | (go_at_call 87; (with_reducible refine (spec_admit.calls k4 _ _ l0 _ _ l1 _ _ t335 _ _ t338 a2 t341 _ ?side1 ?side2 ?side3 ?side4 ?side5 ?side6 ?side7 ?side8 A40.out).mono ?_); (case side1 => repeat (first | exact (Kd.C_below HR0.out HB.out) | (with_reducible first | refine Ca_ ?_ _ | refine Cn_ ?_ _ | refine Cd_ ?_))); (case side2 => exact HC0.out); (case side3 => repeat (first | exact (Kd.C_below HR1.out HB.out) | (with_reducible first | refine Ca_ ?_ _ | refine Cn_ ?_ _ | refine Cd_ ?_))); (case side4 => exact HC1.out); (case side5 => repeat (first | exact (Kd.R_reads' HO337.out).2.2 | (with_reducible first | refine Ca_ ?_ _ | refine Cn_ ?_ _ | refine Cd_ ?_))); (case side6 => exact (Kd.R_reads' HO337.out).2.1); (case side7 => repeat (first | exact (Kd.R_reads' HO340.out).2.2 | (with_reducible first | refine Ca_ ?_ _ | refine Cn_ ?_ _ | refine Cd_ ?_))); (case side8 => exact (Kd.R_reads' HO340.out).2.1); rintro e w47 ⟨v342, rfl, ho0, hb⟩; have HO343 := mk0 (Kd.R_lower (Kd.R_new' (Kd.R_new' (Kd.R_new' (Kd.R_new' (Kd.R_new' ho0 (Kd.R_lt (by (with_reducible repeat (first | apply Ra_ | apply Rn_ | apply Rd_)); exact HO_7.out))) (Kd.R_lt (by (with_reducible repeat (first | apply Ra_ | apply Rn_ | apply Rd_)); exact HO_12.out))) (Kd.R_lt (by (with_reducible repeat (first | apply Ra_ | apply Rn_ | apply Rd_)); exact HO_13.out))) (Kd.R_lt (by (with_reducible repeat (first | apply Ra_ | apply Rn_ | apply Rd_)); exact HO337.out))) (Kd.R_lt (by (with_reducible repeat (first | apply Ra_ | apply Rn_ | apply Rd_)); exact HO340.out))) (below_size (by with_reducible repeat (first | exact HB.out | apply ba_ | apply bn_ | apply bd_)))); replace HO_7 := mk0 (Kd.R_elder' (by (with_reducible repeat (first | apply Ra_ | apply Rn_ | apply Rd_)); exact HO_7.out) (Kd.R_base ho0) hb); replace HO_12 := mk0 (Kd.R_elder' (by (with_reducible repeat (first | apply Ra_ | apply Rn_ | apply Rd_)); exact HO_12.out) (Kd.R_base ho0) hb); replace HO_13 := mk0 (Kd.R_elder' (by (with_reducible repeat (first | apply Ra_ | apply Rn_ | apply Rd_)); exact HO_13.out) (Kd.R_base ho0) hb); replace HO337 := mk0 (Kd.R_elder' (by (with_reducible repeat (first | apply Ra_ | apply Rn_ | apply Rd_)); exact HO337.out) (Kd.R_base ho0) hb); replace HO340 := mk0 (Kd.R_elder' (by (with_reducible repeat (first | apply Ra_ | apply Rn_ | apply Rd_)); exact HO340.out) (Kd.R_base ho0) hb); replace HB := mk0 (below_step (by with_reducible repeat (first | exact HB.out | apply ba_ | apply bn_ | apply bd_)) hb); clear hb ho0))
               repeat (go_quiet (first | (go_at_call 88; (with_reducible refine (spec_runningAt.calls k4 _ _ l0 _ _ x7_2 x9_2 t335 _ ?side1 ?side2 ?side3 ?side4 A38.out).mono ?_); (case side1 => repeat (first | exact (Kd.C_below HR0.out HB.out) | (with_reducible first | refine Ca_ ?_ _ | refine Cn_ ?_ _ | refine Cd_ ?_))); (case side2 => exact HC0.out); (case side3 => repeat (first | exact (Kd.R_reads' HO_7.out).2.2 | (with_reducible first | refine Ca_ ?_ _ | refine Cn_ ?_ _ | refine Cd_ ?_))); (case side4 => exact (Kd.R_reads' HO_7.out).2.1); rintro e w42 ⟨v336, rfl, ho0, hb⟩; have HO337 := mk0 (Kd.R_lower (Kd.R_new' (Kd.R_new' (Kd.R_new' ho0 (Kd.R_lt (by (with_reducible repeat (first | apply Ra_ | apply Rn_ | apply Rd_)); exact HO_7.out))) (Kd.R_lt (by (with_reducible repeat (first | apply Ra_ | apply Rn_ | apply Rd_)); exact HO_12.out))) (Kd.R_lt (by (with_reducible repeat (first | apply Ra_ | apply Rn_ | apply Rd_)); exact HO_13.out))) (below_size (by with_reducible repeat (first | exact HB.out | apply ba_ | apply bn_ | apply bd_)))); replace HO_7 := mk0 (Kd.R_elder' (by (with_reducible repeat (first | apply Ra_ | apply Rn_ | apply Rd_)); exact HO_7.out) (Kd.R_base ho0) hb); replace HO_12 := mk0 (Kd.R_elder' (by (with_reducible repeat (first | apply Ra_ | apply Rn_ | apply Rd_)); exact HO_12.out) (Kd.R_base ho0) hb); replace HO_13 := mk0 (Kd.R_elder' (by (with_reducible repeat (first | apply Ra_ | apply Rn_ | apply Rd_)); exact HO_13.out) (Kd.R_base ho0) hb); replace HB := mk0 (below_step (by with_reducible repeat (first | exact HB.out | apply ba_ | apply bn_ | apply bd_)) hb); clear hb ho0; obtain ⟨Ao43, co43, eo43⟩ := Kd.R_slice HO_12.out; subst eo43) | (go_at_call 89; (with_reducible refine (spec_byTail.calls k4 _ _ l0 _ _ x12_4 t338 _ ?side1 ?side2 ?side3 ?side4 A39.out).mono ?_); (case side1 => repeat (first | exact (Kd.C_below HR0.out HB.out) | (with_reducible first | refine Ca_ ?_ _ | refine Cn_ ?_ _ | refine Cd_ ?_))); (case side2 => exact HC0.out); (case side3 => repeat (first | exact (Kd.R_reads' HO_12.out).2.2 | (with_reducible first | refine Ca_ ?_ _ | refine Cn_ ?_ _ | refine Cd_ ?_))); (case side4 => exact (Kd.R_reads' HO_12.out).2.1); rintro e w44 ⟨v339, rfl, ho0, hb⟩; have HO340 := mk0 (Kd.R_lower (Kd.R_new' (Kd.R_new' (Kd.R_new' (Kd.R_new' ho0 (Kd.R_lt (by (with_reducible repeat (first | apply Ra_ | apply Rn_ | apply Rd_)); exact HO_7.out))) (Kd.R_lt (by (with_reducible repeat (first | apply Ra_ | apply Rn_ | apply Rd_)); exact HO_12.out))) (Kd.R_lt (by (with_reducible repeat (first | apply Ra_ | apply Rn_ | apply Rd_)); exact HO_13.out))) (Kd.R_lt (by (with_reducible repeat (first | apply Ra_ | apply Rn_ | apply Rd_)); exact HO337.out))) (below_size (by with_reducible repeat (first | exact HB.out | apply ba_ | apply bn_ | apply bd_)))); replace HO_7 := mk0 (Kd.R_elder' (by (with_reducible repeat (first | apply Ra_ | apply Rn_ | apply Rd_)); exact HO_7.out) (Kd.R_base ho0) hb); replace HO_12 := mk0 (Kd.R_elder' (by (with_reducible repeat (first | apply Ra_ | apply Rn_ | apply Rd_)); exact HO_12.out) (Kd.R_base ho0) hb); replace HO_13 := mk0 (Kd.R_elder' (by (with_reducible repeat (first | apply Ra_ | apply Rn_ | apply Rd_)); exact HO_13.out) (Kd.R_base ho0) hb); replace HO337 := mk0 (Kd.R_elder' (by (with_reducible repeat (first | apply Ra_ | apply Rn_ | apply Rd_)); exact HO337.out) (Kd.R_base ho0) hb); replace HB := mk0 (below_step (by with_reducible repeat (first | exact HB.out | apply ba_ | apply bn_ | apply bd_)) hb); clear hb ho0; obtain ⟨Ao45, co45, eo45⟩ := Kd.R_slice HO337.out; subst eo45; obtain ⟨Ao46, co46, eo46⟩ := Kd.R_slice HO340.out; subst eo46) | (go_at_call 87; (with_reducible refine (spec_admit.calls k4 _ _ l0 _ _ l1 _ _ t335 _ _ t338 a2 t341 _ ?side1 ?side2 ?side3 ?side4 ?side5 ?side6 ?side7 ?side8 A40.out).mono ?_); (case side1 => repeat (first | exact (Kd.C_below HR0.out HB.out) | (with_reducible first | refine Ca_ ?_ _ | refine Cn_ ?_ _ | refine Cd_ ?_))); (case side2 => exact HC0.out); (case side3 => repeat (first | exact (Kd.C_below HR1.out HB.out) | (with_reducible first | refine Ca_ ?_ _ | refine Cn_ ?_ _ | refine Cd_ ?_))); (case side4 => exact HC1.out); (case side5 => repeat (first | exact (Kd.R_reads' HO337.out).2.2 | (with_reducible first | refine Ca_ ?_ _ | refine Cn_ ?_ _ | refine Cd_ ?_))); (case side6 => exact (Kd.R_reads' HO337.out).2.1); (case side7 => repeat (first | exact (Kd.R_reads' HO340.out).2.2 | (with_reducible first | refine Ca_ ?_ _ | refine Cn_ ?_ _ | refine Cd_ ?_))); (case side8 => exact (Kd.R_reads' HO340.out).2.1); rintro e w47 ⟨v342, rfl, ho0, hb⟩; have HO343 := mk0 (Kd.R_lower (Kd.R_new' (Kd.R_new' (Kd.R_new' (Kd.R_new' (Kd.R_new' ho0 (Kd.R_lt (by (with_reducible repeat (first | apply Ra_ | apply Rn_ | apply Rd_)); exact HO_7.out))) (Kd.R_lt (by (with_reducible repeat (first | apply Ra_ | apply Rn_ | apply Rd_)); exact HO_12.out))) (Kd.R_lt (by (with_reducible repeat (first | apply Ra_ | apply Rn_ | apply Rd_)); exact HO_13.out))) (Kd.R_lt (by (with_reducible repeat (first | apply Ra_ | apply Rn_ | apply Rd_)); exact HO337.out))) (Kd.R_lt (by (with_reducible repeat (first | apply Ra_ | apply Rn_ | apply Rd_)); exact HO340.out))) (below_size (by with_reducible repeat (first | exact HB.out | apply ba_ | apply bn_ | apply bd_)))); replace HO_7 := mk0 (Kd.R_elder' (by (with_reducible repeat (first | apply Ra_ | apply Rn_ | apply Rd_)); exact HO_7.out) (Kd.R_base ho0) hb); replace HO_12 := mk0 (Kd.R_elder' (by (with_reducible repeat (first | apply Ra_ | apply Rn_ | apply Rd_)); exact HO_12.out) (Kd.R_base ho0) hb); replace HO_13 := mk0 (Kd.R_elder' (by (with_reducible repeat (first | apply Ra_ | apply Rn_ | apply Rd_)); exact HO_13.out) (Kd.R_base ho0) hb); replace HO337 := mk0 (Kd.R_elder' (by (with_reducible repeat (first | apply Ra_ | apply Rn_ | apply Rd_)); exact HO337.out) (Kd.R_base ho0) hb); replace HO340 := mk0 (Kd.R_elder' (by (with_reducible repeat (first | apply Ra_ | apply Rn_ | apply Rd_)); exact HO340.out) (Kd.R_base ho0) hb); replace HB := mk0 (below_step (by with_reducible repeat (first | exact HB.out | apply ba_ | apply bn_ | apply bd_)) hb); clear hb ho0)); try go_wp2_with (first | (go_at_call 88; (with_reducible refine (spec_runningAt.calls k4 _ _ l0 _ _ x7_2 x9_2 t335 _ ?side1 ?side2 ?side3 ?side4 A38.out).mono ?_); (case side1 => repeat (first | exact (Kd.C_below HR0.out HB.out) | (with_reducible first | refine Ca_ ?_ _ | refine Cn_ ?_ _ | refine Cd_ ?_))); (case side2 => exact HC0.out); (case side3 => repeat (first | exact (Kd.R_reads' HO_7.out).2.2 | (with_reducible first | refine Ca_ ?_ _ | refine Cn_ ?_ _ | refine Cd_ ?_))); (case side4 => exact (Kd.R_reads' HO_7.out).2.1); rintro e w42 ⟨v336, rfl, ho0, hb⟩; have HO337 := mk0 (Kd.R_lower (Kd.R_new' (Kd.R_new' (Kd.R_new' ho0 (Kd.R_lt (by (with_reducible repeat (first | apply Ra_ | apply Rn_ | apply Rd_)); exact HO_7.out))) (Kd.R_lt (by (with_reducible repeat (first | apply Ra_ | apply Rn_ | apply Rd_)); exact HO_12.out))) (Kd.R_lt (by (with_reducible repeat (first | apply Ra_ | apply Rn_ | apply Rd_)); exact HO_13.out))) (below_size (by with_reducible repeat (first | exact HB.out | apply ba_ | apply bn_ | apply bd_)))); replace HO_7 := mk0 (Kd.R_elder' (by (with_reducible repeat (first | apply Ra_ | apply Rn_ | apply Rd_)); exact HO_7.out) (Kd.R_base ho0) hb); replace HO_12 := mk0 (Kd.R_elder' (by (with_reducible repeat (first | apply Ra_ | apply Rn_ | apply Rd_)); exact HO_12.out) (Kd.R_base ho0) hb); replace HO_13 := mk0 (Kd.R_elder' (by (with_reducible repeat (first | apply Ra_ | apply Rn_ | apply Rd_)); exact HO_13.out) (Kd.R_base ho0) hb); replace HB := mk0 (below_step (by with_reducible repeat (first | exact HB.out | apply ba_ | apply bn_ | apply bd_)) hb); clear hb ho0; obtain ⟨Ao43, co43, eo43⟩ := Kd.R_slice HO_12.out; subst eo43) | (go_at_call 89; (with_reducible refine (spec_byTail.calls k4 _ _ l0 _ _ x12_4 t338 _ ?side1 ?side2 ?side3 ?side4 A39.out).mono ?_); (case side1 => repeat (first | exact (Kd.C_below HR0.out HB.out) | (with_reducible first | refine Ca_ ?_ _ | refine Cn_ ?_ _ | refine Cd_ ?_))); (case side2 => exact HC0.out); (case side3 => repeat (first | exact (Kd.R_reads' HO_12.out).2.2 | (with_reducible first | refine Ca_ ?_ _ | refine Cn_ ?_ _ | refine Cd_ ?_))); (case side4 => exact (Kd.R_reads' HO_12.out).2.1); rintro e w44 ⟨v339, rfl, ho0, hb⟩; have HO340 := mk0 (Kd.R_lower (Kd.R_new' (Kd.R_new' (Kd.R_new' (Kd.R_new' ho0 (Kd.R_lt (by (with_reducible repeat (first | apply Ra_ | apply Rn_ | apply Rd_)); exact HO_7.out))) (Kd.R_lt (by (with_reducible repeat (first | apply Ra_ | apply Rn_ | apply Rd_)); exact HO_12.out))) (Kd.R_lt (by (with_reducible repeat (first | apply Ra_ | apply Rn_ | apply Rd_)); exact HO_13.out))) (Kd.R_lt (by (with_reducible repeat (first | apply Ra_ | apply Rn_ | apply Rd_)); exact HO337.out))) (below_size (by with_reducible repeat (first | exact HB.out | apply ba_ | apply bn_ | apply bd_)))); replace HO_7 := mk0 (Kd.R_elder' (by (with_reducible repeat (first | apply Ra_ | apply Rn_ | apply Rd_)); exact HO_7.out) (Kd.R_base ho0) hb); replace HO_12 := mk0 (Kd.R_elder' (by (with_reducible repeat (first | apply Ra_ | apply Rn_ | apply Rd_)); exact HO_12.out) (Kd.R_base ho0) hb); replace HO_13 := mk0 (Kd.R_elder' (by (with_reducible repeat (first | apply Ra_ | apply Rn_ | apply Rd_)); exact HO_13.out) (Kd.R_base ho0) hb); replace HO337 := mk0 (Kd.R_elder' (by (with_reducible repeat (first | apply Ra_ | apply Rn_ | apply Rd_)); exact HO337.out) (Kd.R_base ho0) hb); replace HB := mk0 (below_step (by with_reducible repeat (first | exact HB.out | apply ba_ | apply bn_ | apply bd_)) hb); clear hb ho0; obtain ⟨Ao45, co45, eo45⟩ := Kd.R_slice HO337.out; subst eo45; obtain ⟨Ao46, co46, eo46⟩ := Kd.R_slice HO340.out; subst eo46) | (go_at_call 87; (with_reducible refine (spec_admit.calls k4 _ _ l0 _ _ l1 _ _ t335 _ _ t338 a2 t341 _ ?side1 ?side2 ?side3 ?side4 ?side5 ?side6 ?side7 ?side8 A40.out).mono ?_); (case side1 => repeat (first | exact (Kd.C_below HR0.out HB.out) | (with_reducible first | refine Ca_ ?_ _ | refine Cn_ ?_ _ | refine Cd_ ?_))); (case side2 => exact HC0.out); (case side3 => repeat (first | exact (Kd.C_below HR1.out HB.out) | (with_reducible first | refine Ca_ ?_ _ | refine Cn_ ?_ _ | refine Cd_ ?_))); (case side4 => exact HC1.out); (case side5 => repeat (first | exact (Kd.R_reads' HO337.out).2.2 | (with_reducible first | refine Ca_ ?_ _ | refine Cn_ ?_ _ | refine Cd_ ?_))); (case side6 => exact (Kd.R_reads' HO337.out).2.1); (case side7 => repeat (first | exact (Kd.R_reads' HO340.out).2.2 | (with_reducible first | refine Ca_ ?_ _ | refine Cn_ ?_ _ | refine Cd_ ?_))); (case side8 => exact (Kd.R_reads' HO340.out).2.1); rintro e w47 ⟨v342, rfl, ho0, hb⟩; have HO343 := mk0 (Kd.R_lower (Kd.R_new' (Kd.R_new' (Kd.R_new' (Kd.R_new' (Kd.R_new' ho0 (Kd.R_lt (by (with_reducible repeat (first | apply Ra_ | apply Rn_ | apply Rd_)); exact HO_7.out))) (Kd.R_lt (by (with_reducible repeat (first | apply Ra_ | apply Rn_ | apply Rd_)); exact HO_12.out))) (Kd.R_lt (by (with_reducible repeat (first | apply Ra_ | apply Rn_ | apply Rd_)); exact HO_13.out))) (Kd.R_lt (by (with_reducible repeat (first | apply Ra_ | apply Rn_ | apply Rd_)); exact HO337.out))) (Kd.R_lt (by (with_reducible repeat (first | apply Ra_ | apply Rn_ | apply Rd_)); exact HO340.out))) (below_size (by with_reducible repeat (first | exact HB.out | apply ba_ | apply bn_ | apply bd_)))); replace HO_7 := mk0 (Kd.R_elder' (by (with_reducible repeat (first | apply Ra_ | apply Rn_ | apply Rd_)); exact HO_7.out) (Kd.R_base ho0) hb); replace HO_12 := mk0 (Kd.R_elder' (by (with_reducible repeat (first | apply Ra_ | apply Rn_ | apply Rd_)); exact HO_12.out) (Kd.R_base ho0) hb); replace HO_13 := mk0 (Kd.R_elder' (by (with_reducible repeat (first | apply Ra_ | apply Rn_ | apply Rd_)); exact HO_13.out) (Kd.R_base ho0) hb); replace HO337 := mk0 (Kd.R_elder' (by (with_reducible repeat (first | apply Ra_ | apply Rn_ | apply Rd_)); exact HO337.out) (Kd.R_base ho0) hb); replace HO340 := mk0 (Kd.R_elder' (by (with_reducible repeat (first | apply Ra_ | apply Rn_ | apply Rd_)); exact HO340.out) (Kd.R_base ho0) hb); replace HB := mk0 (below_step (by with_reducible repeat (first | exact HB.out | apply ba_ | apply bn_ | apply bd_)) hb); clear hb ho0)))
               go_loopg [16] k4 (fun kq v16 w' => ∃ (x7_5 : List Int) (x16_5 : Int), v16 = .int .i64 x16_5 ∧ Aside0 (spec_plan.l4 kq l0 l1 a2 x7_5 x9_2 t341 x16_5 = some r) ∧ Aside0 (kq ≤ k4) ∧ Aside0 (Kd.R (Kd.int .i64) 3 w' w.heap.size (fun k_ => some k_ ≠ (v342 : Value).ownBlock) (.slice Ao14 x7_2.length co14) x7_5) ∧ Aside0 (Kd.R (Kd.int .i64) 3 w' w.heap.size (fun k_ => some k_ ≠ ((.slice Ao14 x7_2.length co14) : Value).ownBlock) v342 t341) ∧ Aside0 (Below w.heap.size w w'))
               case atStart => exact ⟨(x7_2), (0), (by first | rfl | (simp; done) | (simp [*]; done)), H', ⟨Nat.le_refl _⟩, ⟨by (try simp only [hl7_2]); (with_reducible repeat (first | apply Ra_ | apply Rn_ | apply Rd_)); exact Kd.R_mono HO_7.out (fun _ hk => hk.2)⟩, ⟨by (try simp only [hl7_2]); (with_reducible repeat (first | apply Ra_ | apply Rn_ | apply Rd_)); exact Kd.R_mono HO343.out (fun _ hk => hk.1.1.1.1.2)⟩, ⟨by with_reducible repeat (first | exact HB.out | apply ba_ | apply bn_ | apply bd_)⟩⟩
               case round =>
                clear H'
                try clear c1
                try clear p1
                try clear q1
                try clear hx1
                try clear c2
                try clear p2
                try clear c3
                try clear p3
                try clear q3
                try clear hx3
                try clear c4
                try clear c4b0
                try clear c4b1
                try clear c5
                try clear c5b0
                try clear c5b1
                try clear p6
                try clear c8
                try clear c8b0
                try clear c9
                try clear c9b0
                try clear p10
                try clear q10
                try clear hx10
                try clear hf10
                try clear c15
                try clear c15b0
                try clear c18
                try clear c18b0
                try clear c19
                try clear c19b0
                try clear c20
                try clear c20b0
                try clear c21
                try clear c21b0
                try clear c22
                try clear c29
                try clear c29b0
                try clear c30
                try clear c30b0
                try clear c31
                try clear c31b0
                try clear p31
                try clear q31
                try clear hx31
                try clear c32
                try clear c32b0
                try clear p32
                try clear q32
                try clear hx32
                try clear c33
                try clear c33b0
                try clear c33b1
                try clear p33
                try clear q33
                try clear hx33
                try clear c34
                try clear c44
                try clear hx10_0
                try clear hx318_0
                try clear hx319_0
                try clear hx319_1
                try clear hx319_2
                try clear hx319_3
                try clear hx329_0
                try clear hx330_0
                try clear hx331_0
                try clear p1
                try clear p10
                try clear p2
                try clear p3
                try clear p318
                try clear p319
                try clear p329
                try clear p330
                try clear p331
                try clear p6
                try clear q1
                try clear q10
                try clear q3
                try clear q318
                try clear q319
                try clear q329
                try clear q330
                try clear q331
                obtain ⟨x7_5, x16_5, rfl, HA, HK5, HO_7, HO_15, HB⟩ := hrel
                have hl7_5 := (Kd.R_reads' HO_7.out).1
                rw [hl7_5] at HO_7
                (try simp only [hl7_5])
                (try simp only [hl7_5] at HO_15)
                cases gk with
                | zero => exact absurd HA.out (by simp [spec_plan.l4])
                | succ k5 =>
                 have H := HA.out
                 clear HA
                 simp only [spec_plan.l4] at H
                 by_cases c48 : x16_5 < (t341.length : Int)
                 ·
                  rw [if_pos c48] at H
                  have c48b0 : decide (x16_5 < (t341.length : Int)) = true := decide_eq_true c48
                  clear c48
                  by_cases c49 : 0 ≤ x16_5
                  ·
                   rw [if_pos c49] at H
                   have c49b0 : decide (0 ≤ x16_5) = true := decide_eq_true c49
                   clear c49
                   by_cases c50 : 0 ≤ (rd t341 x16_5)
                   ·
                    rw [if_pos c50] at H
                    have c50b0 : decide (0 ≤ (rd t341 x16_5)) = true := decide_eq_true c50
                    clear c50
                    by_cases c51 : (rd t341 x16_5) < (x7_5.length : Int)
                    ·
                     rw [if_pos c51] at H
                     have c51b0 : decide ((rd t341 x16_5) < (x7_5.length : Int)) = true := decide_eq_true c51
                     clear c51
                     obtain ⟨y345, hy345⟩ : ∃ y_ : List Int, y_ = (x7_5.set ((rd t341 x16_5) : Int).toNat x9_2) := ⟨_, rfl⟩
                     replace H : (spec_plan.l4 k5 l0 l1 a2 y345 x9_2 t341 (wrap64 (x16_5 + 1))) = some r := by first | (rw [hy345]; with_reducible exact H) | (rw [hy345]; exact (Option.bind_some _ _).symm.trans H) | (rw [hy345]; exact H) | exact H
                     have Ny345 := mk0 hy345
                     clear hy345
                     have H' := mk0 H
                     clear H
                     obtain ⟨Ao53, co53, eo53⟩ := Kd.R_slice HO_15.out
                     subst eo53
                     have p344 : 0 ≤ (x16_5 : Int) := od_ (by with_reducible assumption)
                     have q344 : x16_5 < (t341.length : Int) := od_ (by with_reducible assumption)
                     obtain ⟨ad344, e344, hx344_0⟩ := Kd.at_int (Kd.R_reads' HO_15.out).2.2 x16_5 p344 q344
                     cases e344
                     replace p344 := eq_true p344
                     replace q344 := eq_true q344
                     have p52 : 0 ≤ ((rd t341 x16_5) : Int) := od_ (by with_reducible assumption)
                     have q52 : ((rd t341 x16_5) : Int) < ((x7_5.length : Int) : Int) := od_ (by with_reducible assumption)
                     obtain ⟨go52, co52, eo52, gb52, gl52, cl52, HG52⟩ := Kd.R_form HO_7.out (by omega)
                     (first | cases eo52 | (injection eo52 with ea_ en_ ec_; (first | subst ea_ | (injection ea_ with ea_; subst ea_)); subst ec_; clear en_))
                     have GB52 := mk0 gb52
                     have GG52 := mk0 HG52
                     clear gb52 gl52 HG52
                     obtain ⟨hx52_0, hf52_0⟩ := Kd.R_celln 0 HO_7.out ((rd t341 x16_5) : Int) p52 q52
                     replace p52 := eq_true p52
                     replace q52 := eq_true q52
                     have HP54 := Kd.R_putg HO_7.out ((rd t341 x16_5) : Int) x9_2
                     go_wp2_with (first | ((with_reducible refine gate_store (t := 3) (p := 104) rfl ?_); (try (rw [drewN_self wr]; generalize hq_ : World.drewN wr _ = wr; replace HO_7 := mk0 (Kd.R_at hq_ HO_7.out); replace HO_15 := mk0 (Kd.R_at hq_ HO_15.out); replace HB := mk0 (below_at hq_ HB.out); clear hq_; (try (have HP54 := Kd.R_putg HO_7.out ((rd t341 x16_5) : Int) x9_2)))); refine store_event (t := 3) (p := 104) (v := ?vo_w55) (w1 := (wr.setCell ⟨go52, ((rd t341 x16_5) : Int).toNat, none⟩ (.int .i64 x9_2))) ?hg ?ho ?hn ?hr ?_; (case ho => rfl); (case hg => rfl); (case hn => rfl); (case hr => first | (go_simp; done) | (go_simp; rfl)); intro w55 hw; have hg : wr.grownBy w55 (some go52) := (by rw [hw]; exact HP54.2); have hp_ : Kd.R (Kd.int .i64) 3 w55 w.heap.size (fun k_ => some k_ ≠ (.slice (some ad344) t341.length co53 : Value).ownBlock) (.slice (some ⟨go52, 0, none⟩) x7_5.length co14) y345 := (by rw [hw, Ny345.out]; exact HP54.1); clear HP54; replace HO_7 := mk0 (hp_); replace HO_15 := mk0 (Kd.R_after (v := (.slice (some ⟨go52, 0, none⟩) x7_5.length co14)) (v1 := (.slice (some ⟨go52, 0, none⟩) x7_5.length co14)) (ok := (fun _ => True)) (by (with_reducible repeat (first | apply Ra_ | apply Rn_ | apply Rd_)); exact Kd.R_mono HO_15.out (fun _ hk => ⟨trivial, hk⟩)) hg (.inl rfl)); replace HB := mk0 ((by rw [hw]; exact below_set (HB.out) GB52.out : Below w.heap.size w w55)); clear hg hw hp_))
                     repeat (go_quiet (first | ((with_reducible refine gate_store (t := 3) (p := 104) rfl ?_); (try (rw [drewN_self wr]; generalize hq_ : World.drewN wr _ = wr; replace HO_7 := mk0 (Kd.R_at hq_ HO_7.out); replace HO_15 := mk0 (Kd.R_at hq_ HO_15.out); replace HB := mk0 (below_at hq_ HB.out); clear hq_; (try (have HP54 := Kd.R_putg HO_7.out ((rd t341 x16_5) : Int) x9_2)))); refine store_event (t := 3) (p := 104) (v := ?vo_w55) (w1 := (wr.setCell ⟨go52, ((rd t341 x16_5) : Int).toNat, none⟩ (.int .i64 x9_2))) ?hg ?ho ?hn ?hr ?_; (case ho => rfl); (case hg => rfl); (case hn => rfl); (case hr => first | (go_simp; done) | (go_simp; rfl)); intro w55 hw; have hg : wr.grownBy w55 (some go52) := (by rw [hw]; exact HP54.2); have hp_ : Kd.R (Kd.int .i64) 3 w55 w.heap.size (fun k_ => some k_ ≠ (.slice (some ad344) t341.length co53 : Value).ownBlock) (.slice (some ⟨go52, 0, none⟩) x7_5.length co14) y345 := (by rw [hw, Ny345.out]; exact HP54.1); clear HP54; replace HO_7 := mk0 (hp_); replace HO_15 := mk0 (Kd.R_after (v := (.slice (some ⟨go52, 0, none⟩) x7_5.length co14)) (v1 := (.slice (some ⟨go52, 0, none⟩) x7_5.length co14)) (ok := (fun _ => True)) (by (with_reducible repeat (first | apply Ra_ | apply Rn_ | apply Rd_)); exact Kd.R_mono HO_15.out (fun _ hk => ⟨trivial, hk⟩)) hg (.inl rfl)); replace HB := mk0 ((by rw [hw]; exact below_set (HB.out) GB52.out : Below w.heap.size w w55)); clear hg hw hp_)); try go_wp2_with (first | ((with_reducible refine gate_store (t := 3) (p := 104) rfl ?_); (try (rw [drewN_self wr]; generalize hq_ : World.drewN wr _ = wr; replace HO_7 := mk0 (Kd.R_at hq_ HO_7.out); replace HO_15 := mk0 (Kd.R_at hq_ HO_15.out); replace HB := mk0 (below_at hq_ HB.out); clear hq_; (try (have HP54 := Kd.R_putg HO_7.out ((rd t341 x16_5) : Int) x9_2)))); refine store_event (t := 3) (p := 104) (v := ?vo_w55) (w1 := (wr.setCell ⟨go52, ((rd t341 x16_5) : Int).toNat, none⟩ (.int .i64 x9_2))) ?hg ?ho ?hn ?hr ?_; (case ho => rfl); (case hg => rfl); (case hn => rfl); (case hr => first | (go_simp; done) | (go_simp; rfl)); intro w55 hw; have hg : wr.grownBy w55 (some go52) := (by rw [hw]; exact HP54.2); have hp_ : Kd.R (Kd.int .i64) 3 w55 w.heap.size (fun k_ => some k_ ≠ (.slice (some ad344) t341.length co53 : Value).ownBlock) (.slice (some ⟨go52, 0, none⟩) x7_5.length co14) y345 := (by rw [hw, Ny345.out]; exact HP54.1); clear HP54; replace HO_7 := mk0 (hp_); replace HO_15 := mk0 (Kd.R_after (v := (.slice (some ⟨go52, 0, none⟩) x7_5.length co14)) (v1 := (.slice (some ⟨go52, 0, none⟩) x7_5.length co14)) (ok := (fun _ => True)) (by (with_reducible repeat (first | apply Ra_ | apply Rn_ | apply Rd_)); exact Kd.R_mono HO_15.out (fun _ hk => ⟨trivial, hk⟩)) hg (.inl rfl)); replace HB := mk0 ((by rw [hw]; exact below_set (HB.out) GB52.out : Below w.heap.size w w55)); clear hg hw hp_)))
                     (try simp only [← hl7_5])
                     go_roundg k5
                     case measure => have := HK1.out; have := HK2.out; have := HK3.out; have := HK4.out; have := HK5.out; omega
                     case rel => exact ⟨(y345), (wrap64 (x16_5 + 1)), (by first | rfl | (simp; done) | (simp [*]; done)), H', ⟨by have := HK1.out; have := HK2.out; have := HK3.out; have := HK4.out; have := HK5.out; omega⟩, ⟨by (try simp only [hl7_2]); (try simp only [hl7_5]); (with_reducible repeat (first | apply Ra_ | apply Rn_ | apply Rd_)); exact HO_7.out⟩, ⟨by (try simp only [hl7_2]); (try simp only [hl7_5]); (with_reducible repeat (first | apply Ra_ | apply Rn_ | apply Rd_)); exact Kd.R_mono HO_15.out (fun _ hk => hk.2)⟩, ⟨by with_reducible repeat (first | exact HB.out | apply ba_ | apply bn_ | apply bd_)⟩⟩
                    ·
                     rw [if_neg c51] at H
                     exact nn_ H
                   ·
                    rw [if_neg c50] at H
                    exact nn_ H
                  ·
                   rw [if_neg c49] at H
                   exact nn_ H
                 ·
                  rw [if_neg c48] at H
                  have c48b0 : decide (x16_5 < (t341.length : Int)) = false := decide_eq_false c48
                  clear c48
                  have H' := mk0 H
                  clear H
                  obtain ⟨Ao56, co56, eo56⟩ := Kd.R_slice HO_15.out
                  subst eo56
                  go_wp2
                  repeat (go_quiet (fail); try go_wp2)
                  (try simp only [← hl7_2, ← hl7_5])
                  go_roundg k5
                  case measure => have := HK1.out; have := HK2.out; have := HK3.out; have := HK4.out; have := HK5.out; omega
                  case rel => exact ⟨(x7_5), (wrap64 (x9_2 + 1)), (by first | rfl | (simp; done) | (simp [*]; done)), H', ⟨by have := HK1.out; have := HK2.out; have := HK3.out; have := HK4.out; have := HK5.out; omega⟩, ⟨by (try simp only [hl7_2]); (try simp only [hl7_5]); (with_reducible repeat (first | apply Ra_ | apply Rn_ | apply Rd_)); exact Kd.R_mono HO_7.out (fun _ hk => trivial)⟩, ⟨by with_reducible repeat (first | exact HB.out | apply ba_ | apply bn_ | apply bd_)⟩⟩
        ·
         rw [if_neg c15] at H
         have c15b0 : decide (x9_2 < 200) = false := decide_eq_false c15
         clear c15
         obtain rfl := Option.some.inj H
         go_wp2
         repeat (go_quiet (fail); try go_wp2)
         go_ret
         exact ⟨_, by first | rfl | (simp [errW_none, errW_some] <;> rfl) | (simp [*, errW_none, errW_some] <;> rfl), by (with_reducible repeat (first | apply Ra_ | apply Rn_ | apply Rd_)); exact HO_7.out, by with_reducible repeat (first | exact HB.out | apply ba_ | apply bn_ | apply bd_)⟩
  ·
   rw [if_neg c5] at H
   exact nn_ H
 ·
  rw [if_neg c4] at H
  exact nn_ H
end Go.Proofs.YtpmfghbjkampkaaDoor.PFnValidLog
