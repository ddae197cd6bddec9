/- Draws: DrawDoneBy. Cut down, by a program of mine, from what print.sh printed for this seat. -/
import Derived.Test.YtpmfghbjkampkaaDoorQ6
import Derived.Test.YtpmfghbjkampkaaDoorQ7
namespace Go.Proofs.YtpmfghbjkampkaaDoor.PFnValidLog
open Go.RowKit Go.Proofs.YtpmfghbjkampkaaDoorW.PrintWords Go.Proofs.YtpmfghbjkampkaaDoorW.PrintLast Go.Proofs.YtpmfghbjkampkaaDoorW.PrintMore
attribute [local go_sem] max2_int min2_int max_two min_two max_three min_three max_four min_four
set_option linter.unusedVariables false
set_option linter.unusedSimpArgs false
def spec_DrawDoneBy.j0 : Nat → List (S41) → List (S30) → Bool → List Int → Int → Option ((List (S41)) × (List (S30)) × Int)
 | 0, _, _, _, _, _ => none
 | k + 1, x6, x7, x22, x477000, x477001 => if x22 = true then ((spec_reader_pick.f k x477000 x477001 (x7.length : Int)).bind fun bt487 => (if 0 ≤ bt487.1 then (if bt487.1 < (x7.length : Int) then ((spec_reader_one.f k x477000 bt487.2 (([0, (-1), 1] : List Int))).bind fun bt493 => (some (x6, x7, wrap64 (((rd_T30 x7 bt487.1).f0) + bt493.1)))) else (none)) else (none))) else ((spec_reader_one.f k x477000 x477001 (([0, 10, 300, (-1)] : List Int))).bind fun bt498 => (some (x6, x7, bt498.1)))
def spec_DrawDoneBy.f (k : Nat) (l0 : List Int) : Option ((List (S41)) × (List (S30)) × Int) := (spec_newReader.f l0).bind fun bt474 => ((spec_anyGraph.f k bt474.1 bt474.2).bind fun bt477 => ((spec_anyLog.f k bt474.1 bt477.2 bt477.1).bind fun bt481 => (if (bt481.1.length : Int) > 0 then ((spec_reader_pick.f k bt474.1 bt481.2 3).bind fun bt485 => (spec_DrawDoneBy.j0 k bt477.1 bt481.1 (decide (bt485.1 > 0)) bt474.1 bt485.2)) else (spec_DrawDoneBy.j0 k bt477.1 bt481.1 false bt474.1 bt481.2))))
def spec_DrawDoneBy.T5 : Bool × List (List Nat × List Nat) := (true, [([], []), ([], []), ([], []), ([], []), ([], []), ([4], [4]), ([3, 5], [3, 5]), ([2, 6], [2, 6]), ([7], [7]), ([8], [8]), ([], []), ([], []), ([10, 11, 6], [10, 11]), ([9, 12], [9, 12]), ([0, 12, 0], [0]), ([1, 14, 0, 1, 14], [1]), ([13, 15, 0, 1, 2, 3, 4, 5, 6, 7, 8, 9, 10, 11, 12, 13, 14, 15], [13])])
def spec_DrawDoneBy.B5 : List Nat := [0, 0, 0, 0, 0, 16, 56, 124, 252, 508, 0, 0, 3192, 8188, 7289, 23675, 65535]
theorem spec_DrawDoneBy.tab5 : rtab .any (opsOf Tryd.f23 5) = spec_DrawDoneBy.T5 := by kernel_rfl
theorem spec_DrawDoneBy.bits5 : waitsOk spec_DrawDoneBy.T5.2 spec_DrawDoneBy.B5 = true := by kernel_rfl
set_option maxHeartbeats 8000000 in
set_option maxRecDepth 100000 in
theorem spec_DrawDoneBy.calls (k : Nat) (A0 : Option Addr) (c0 : Nat) (l0 : List Int) (r1 : List (S41)) (r2 : List (S30)) (r3 : Int) (w : World) (hr0 : Kd.C (Kd.int .u8) w A0 l0.length l0) (hc0 : l0.length ≤ c0) (h : spec_DrawDoneBy.f k l0 = some (r1, r2, r3)) :
  Calls Tryd.prog 23 #[.slice A0 l0.length c0] w fun e w' => ∃ v0_ v1_ : Value, e = .returned (.tuple #[v0_, v1_, .int .i64 r3]) ∧ Kd.N k41 58 w' w.heap.size (fun k_ => (w.heap.size ≤ k_) ∧ some k_ ≠ (v1_ : Value).ownBlock) v0_ r1 ∧ Kd.R k30 75 w' w.heap.size (fun k_ => (w.heap.size ≤ k_)) v1_ r2 ∧ Below w.heap.size w w' := by
 have HR0 := mk0 hr0
 have HC0 := mk0 hc0
 clear hr0 hc0
 have HB := mk0 (Below.refl w.heap.size w)
 have H : ((spec_newReader.f l0).bind fun bt474 => ((spec_anyGraph.f k bt474.1 bt474.2).bind fun bt477 => ((spec_anyLog.f k bt474.1 bt477.2 bt477.1).bind fun bt481 => (if (bt481.1.length : Int) > 0 then ((spec_reader_pick.f k bt474.1 bt481.2 3).bind fun bt485 => (spec_DrawDoneBy.j0 k bt477.1 bt481.1 (decide (bt485.1 > 0)) bt474.1 bt485.2)) else (spec_DrawDoneBy.j0 k bt477.1 bt481.1 false bt474.1 bt481.2))))) = some (r1, r2, r3) := h
 clear h
 replace H := bE_ H
 obtain ⟨⟨t474, t475⟩, A20, H⟩ := H
 have A2 := mk0 A20
 clear A20
 replace H := bE_ H
 obtain ⟨⟨t477, t480⟩, A30, H⟩ := H
 have A3 := mk0 A30
 clear A30
 replace H := bE_ H
 obtain ⟨⟨t481, t484⟩, A40, H⟩ := H
 have A4 := mk0 A40
 clear A40
 have HC5 := mk0 H
 clear H
 go_enter Tryd.func23, Tryd.ntmps23
 go_upto_region 4 with (first | ((with_reducible refine gate_callee (f := 51) rfl ?_); refine goesL_ (some 9) rfl rfl Tryd.func51 (by kernel_rfl) rfl #[.slice A0 l0.length c0] rfl (by (try simp only [List.map_toArray, List.map_cons, List.map_nil]); first | done | rfl | (simp only [List.length_drop, List.length_take]; rfl)) ?_; (with_reducible refine (spec_newReader.calls _ _ l0 t474 t475 w _ ?side1 ?side2 ?side3 A2.out).mono ?_); (case side1 => with_reducible repeat (first | exact HB.out | apply ba_ | apply bn_ | apply bd_)); (case side2 => exact HR0.out); (case side3 => exact HC0.out); rintro e w6 ⟨g476, rfl, hi, hb, hb2⟩; refine ⟨_, rfl, ?_⟩; replace HB := mk0 (hb); have HI476 := mk0 (hi); clear hb hb2 hi) | ((with_reducible refine gate_callee (f := 52) rfl ?_); refine goesL_ (some 11) rfl rfl Tryd.func52 (by kernel_rfl) rfl #[.pointer (some ⟨g476, 0, none⟩)] rfl (by (try simp only [List.map_toArray, List.map_cons, List.map_nil]); first | done | rfl | (simp only [List.length_drop, List.length_take]; rfl)) ?_; (with_reducible refine (spec_anyGraph.calls k g476 t474 t475 t477 t480 w _ ?side1 ?side2 A3.out).mono ?_); (case side1 => repeat (first | (with_reducible first | exact HI476.out | apply ia_ | apply in_ | apply id_ | apply is_) | exact HI476.out)); (case side2 => repeat (first | (with_reducible first | exact HB.out | apply ba_ | apply bn_ | apply bd_ | refine below_set ?_ (IsS71.ge HI476.out)) | exact HB.out)); rintro e w7 ⟨v478, rfl, ho0, hi, hb, hk⟩; refine ⟨_, rfl, ?_⟩; have HO479 := mk0 (Kd.N_lower (Kd.N_mono (ok' := fun k_ => (w.heap.size ≤ k_) ∧ k_ ≠ g476) ho0 (fun k_ hk_ => ⟨(Nat.le_trans (below_size (by repeat (first | (with_reducible first | exact HB.out | apply ba_ | apply bn_ | apply bd_ | refine below_set ?_ (IsS71.ge HI476.out)) | exact HB.out))) hk_), (IsS71.fresh (by repeat (first | (with_reducible first | exact HI476.out | apply ia_ | apply in_ | apply id_ | apply is_) | exact HI476.out)) k_ hk_)⟩)) (below_size (by repeat (first | (with_reducible first | exact HB.out | apply ba_ | apply bn_ | apply bd_ | refine below_set ?_ (IsS71.ge HI476.out)) | exact HB.out)))); replace HB := mk0 (hb); replace HI476 := mk0 (hi); clear hb hk hi ho0; obtain ⟨Ao8, co8, eo8⟩ := Kd.N_slice HO479.out; subst eo8) | ((with_reducible refine gate_callee (f := 55) rfl ?_); refine goesL_ (some 14) rfl rfl Tryd.func55 (by kernel_rfl) rfl #[.pointer (some ⟨g476, 0, none⟩), .slice Ao8 t477.length co8] rfl (by (try simp only [List.map_toArray, List.map_cons, List.map_nil]); first | done | rfl | (simp only [List.length_drop, List.length_take]; rfl)) ?_; (with_reducible refine (spec_anyLog.calls k g476 t474 t480 _ _ t477 t481 t484 w _ ?side1 ?side2 ?side3 ?side4 A4.out).mono ?_); (case side1 => repeat (first | (with_reducible first | exact HI476.out | apply ia_ | apply in_ | apply id_ | apply is_) | exact HI476.out)); (case side2 => repeat (first | (with_reducible first | exact HB.out | apply ba_ | apply bn_ | apply bd_ | refine below_set ?_ (IsS71.ge HI476.out)) | exact HB.out)); (case side3 => exact Kd.C_foot_ownV (base := 0) (Kd.N_V (Kd.N_mono (ok := fun k_ => (((w.heap.size ≤ k_)) ∧ k_ ≠ g476)) (by (with_reducible repeat (first | apply Na_ | apply Nn_ | apply Nd_)); exact HO479.out) (fun k_ hk_ => (⟨hk_, hk_.2⟩ : _ ∧ k_ ≠ g476)))) (fun _ h_ => h_.2)); (case side4 => exact (Kd.N_reads' HO479.out).2.1); rintro e w9 ⟨v482, rfl, ho0, hi, hb, hk⟩; refine ⟨_, rfl, ?_⟩; replace HO479 := mk0 (Kd.N_mono (Kd.N_told (Kd.N_oldK (Kd.N_mono (ok := fun k_ => (((w.heap.size ≤ k_)) ∧ k_ ≠ g476)) (by (with_reducible repeat (first | apply Na_ | apply Nn_ | apply Nd_)); exact HO479.out) (fun k_ hk_ => (⟨hk_, hk_.2⟩ : _ ∧ k_ ≠ g476))) hk) (Kd.R_base ho0)) (fun _ h_ => h_.1)); have HO483 := mk0 (Kd.R_lower (Kd.R_newM (M := fun k_ => (w.heap.size ≤ k_)) ho0 (below_size (by repeat (first | (with_reducible first | exact HB.out | apply ba_ | apply bn_ | apply bd_ | refine below_set ?_ (IsS71.ge HI476.out)) | exact HB.out))) (fun k_ h_ => h_)) (below_size (by repeat (first | (with_reducible first | exact HB.out | apply ba_ | apply bn_ | apply bd_ | refine below_set ?_ (IsS71.ge HI476.out)) | exact HB.out)))); replace HB := mk0 (hb); replace HI476 := mk0 (hi); clear hb hk hi ho0))
 (try simp only [Act.put, List.setIfInBounds_toArray, List.set_cons_zero, List.set_cons_succ])
 go_cut [22] (fun v22 wc => ∃ (kq : Nat) (x22_4 : Bool) (x477001_4 : Int), v22 = .bool x22_4 ∧ Aside0 (spec_DrawDoneBy.j0 kq t477 t481 x22_4 t474 x477001_4 = some (r1, r2, r3)) ∧ Aside0 (kq ≤ k) ∧ Aside0 (Kd.N k41 58 wc w.heap.size (fun k_ => (w.heap.size ≤ k_) ∧ some k_ ≠ (v482 : Value).ownBlock ∧ k_ ≠ g476) (.slice Ao8 t477.length co8) t477) ∧ Aside0 (Kd.R k30 75 wc w.heap.size (fun k_ => (w.heap.size ≤ k_)) v482 t481) ∧ Aside0 (IsS71 w wc g476 t474 x477001_4) ∧ Aside0 (Below w.heap.size w wc))
 case first =>
  have H := HC5.out
  clear HC5
  by_cases c10 : (t481.length : Int) > 0
  ·
   rw [if_pos c10] at H
   have c10b0 : decide (0 < (t481.length : Int)) = true := decide_eq_true c10
   have c10b1 : decide (0 < t481.length) = true := decide_eq_true (by omega)
   clear c10
   (first | rw [c10b0] | (simp only [i64_w, i32_w]; rw [c10b0]) | skip)
   replace H := bE_ H
   obtain ⟨⟨t485, t486⟩, A110, H⟩ := H
   have A11 := mk0 A110
   clear A110
   have H' := mk0 H
   clear H
   obtain ⟨Ao12, co12, eo12⟩ := Kd.R_slice HO483.out
   subst eo12
   go_wp2_with (first | (go_at_call 56; (with_reducible refine (spec_reader_pick.calls k g476 t474 t484 3 t485 t486 w _ ?side1 ?side2 A11.out).mono ?_); (case side1 => repeat (first | (with_reducible first | exact HI476.out | apply ia_ | apply in_ | apply id_ | apply is_) | exact HI476.out)); (case side2 => repeat (first | (with_reducible first | exact HB.out | apply ba_ | apply bn_ | apply bd_ | refine below_set ?_ (IsS71.ge HI476.out)) | exact HB.out)); rintro e w13 ⟨rfl, hi, hb, hk⟩; replace HO479 := mk0 (Kd.N_mono (Kd.N_keep (Kd.N_mono (ok := fun k_ => ((((w.heap.size ≤ k_)) ∧ k_ ≠ g476) ∧ some k_ ≠ (.slice Ao12 t481.length co12 : Value).ownBlock)) (by (with_reducible repeat (first | apply Na_ | apply Nn_ | apply Nd_)); exact HO479.out) (fun k_ hk_ => (⟨hk_, hk_.1.2⟩ : _ ∧ k_ ≠ g476))) hk (fun _ h => h.2)) (fun _ h => h.1)); replace HO483 := mk0 (Kd.R_mono (Kd.R_keep (IsS71.apart (show IsS71 w _ g476 t474 t484 from by repeat (first | (with_reducible first | exact HI476.out | apply ia_ | apply in_ | apply id_ | apply is_) | exact HI476.out)) (by (with_reducible repeat (first | apply Ra_ | apply Rn_ | apply Rd_)); exact HO483.out) (by decide)) hk (fun _ h => h.2)) (fun _ h => h.1)); replace HB := mk0 (hb); replace HI476 := mk0 (hi); clear hb hk hi))
   go_meet
   case rel => exact ⟨_, (decide (t485 > 0)), (t486), (by first | rfl | (simp; done) | (simp [*]; done)), H', ⟨by first | omega | exact Nat.le_refl _⟩, ⟨by (with_reducible repeat (first | apply Na_ | apply Nn_ | apply Nd_)); exact Kd.N_mono HO479.out (fun _ hk => ⟨hk.1.1, ⟨hk.2, hk.1.2⟩⟩)⟩, ⟨by (with_reducible repeat (first | apply Ra_ | apply Rn_ | apply Rd_)); exact Kd.R_mono HO483.out (fun _ hk => hk.1)⟩, ⟨by repeat (first | (with_reducible first | exact HI476.out | apply ia_ | apply in_ | apply id_ | apply is_) | exact HI476.out)⟩, ⟨by repeat (first | (with_reducible first | exact HB.out | apply ba_ | apply bn_ | apply bd_ | refine below_set ?_ (IsS71.ge HI476.out)) | exact HB.out)⟩⟩
  ·
   rw [if_neg c10] at H
   have c10b0 : decide (0 < (t481.length : Int)) = false := decide_eq_false c10
   have c10b1 : decide (0 < t481.length) = false := decide_eq_false (by omega)
   clear c10
   (first | rw [c10b0] | (simp only [i64_w, i32_w]; rw [c10b0]) | skip)
   have H' := mk0 H
   clear H
   obtain ⟨Ao14, co14, eo14⟩ := Kd.R_slice HO483.out
   subst eo14
   go_wp2
   go_meet
   case rel => exact ⟨_, (false), (t484), (by first | rfl | (simp; done) | (simp [*]; done)), H', ⟨by first | omega | exact Nat.le_refl _⟩, ⟨by (with_reducible repeat (first | apply Na_ | apply Nn_ | apply Nd_)); exact Kd.N_mono HO479.out (fun _ hk => ⟨hk.1.1, ⟨hk.2, hk.1.2⟩⟩)⟩, ⟨by (with_reducible repeat (first | apply Ra_ | apply Rn_ | apply Rd_)); exact Kd.R_mono HO483.out (fun _ hk => hk.1)⟩, ⟨by repeat (first | (with_reducible first | exact HI476.out | apply ia_ | apply in_ | apply id_ | apply is_) | exact HI476.out)⟩, ⟨by repeat (first | (with_reducible first | exact HB.out | apply ba_ | apply bn_ | apply bd_ | refine below_set ?_ (IsS71.ge HI476.out)) | exact HB.out)⟩⟩
 case rest =>
  clear HC5
  try clear c1
  try clear c2
  try clear p2
  try clear c5
  try clear c10
  try clear c10b0
  try clear c10b1
  obtain ⟨kq, x22_4, x477001_4, rfl, HA, HJ4, HO_6, HO_7, HI476, HB⟩ := hcut
  cases kq with
  | zero => exact absurd HA.out (by simp [spec_DrawDoneBy.j0])
  | succ kj4 =>
   have H := HA.out
   clear HA
   simp only [spec_DrawDoneBy.j0] at H
   by_cases c15 : x22_4 = true
   ·
    subst c15
    rw [if_pos rfl] at H
    replace H := bE_ H
    obtain ⟨⟨t487, t488⟩, A160, H⟩ := H
    have A16 := mk0 A160
    clear A160
    by_cases c17 : 0 ≤ t487
    ·
     rw [if_pos c17] at H
     have c17b0 : decide (0 ≤ t487) = true := decide_eq_true c17
     clear c17
     by_cases c18 : t487 < (t481.length : Int)
     ·
      rw [if_pos c18] at H
      have c18b0 : decide (t487 < (t481.length : Int)) = true := decide_eq_true c18
      clear c18
      obtain ⟨y490, hy490⟩ : ∃ y_ : List Int, y_ = (([0, (-1), 1] : List Int)) := ⟨_, rfl⟩
      replace H : ((spec_reader_one.f kj4 t474 t488 y490).bind fun bt493 => (some (t477, t481, wrap64 (((rd_T30 t481 t487).f0) + bt493.1)))) = some (r1, r2, r3) := by first | (rw [hy490]; with_reducible exact H) | (rw [hy490]; exact (Option.bind_some _ _).symm.trans H) | (rw [hy490]; exact H) | exact H
      have Ny490 := mk0 hy490
      clear hy490
      replace H := bE_ H
      obtain ⟨⟨t493, t494⟩, A190, H⟩ := H
      have A19 := mk0 A190
      clear A190
      simp only [Option.some.injEq, Prod.mk.injEq] at H
      obtain ⟨rfl, rfl, rfl⟩ := H
      try go_wp2
      replace HO_6 := mk0 (Kd.N_drew HO_6.out)
      replace HO_7 := mk0 (Kd.R_drew HO_7.out)
      replace HI476 := mk0 (IsS71.drew HI476.out)
      replace HB := mk0 (below_drew1 HB.out)
      obtain ⟨Ao21, co21, eo21⟩ := Kd.R_slice HO_7.out
      (first | subst eo21 | (injection eo21 with f1_ f2_ f3_; have f4_ := f1_.symm; have f5_ := f3_.symm; clear f1_ f2_ f3_; subst f4_; subst f5_))
      have p489 : 0 ≤ (t487 : Int) := od_ (by with_reducible assumption)
      have q489 : t487 < (t481.length : Int) := od_ (by with_reducible assumption)
      obtain ⟨ad489, e489, hx489_0, hx489_1, hx489_2⟩ := at_T30 (Kd.R_reads' HO_7.out).2.2 t487 p489 q489
      cases e489
      replace p489 := eq_true p489
      replace q489 := eq_true q489
      refine start_ (n := 17) (S := fun w' => w'.cell? (ad489.add ((t487).toNat * 3)) = some (.int .i64 ((rd_T30 t481 t487).f0)) ∧ w'.cell? ⟨(ad489.add ((t487).toNat * 3)).block, (ad489.add ((t487).toNat * 3)).off + 1, none⟩ = some (.int .i64 ((rd_T30 t481 t487).f1)) ∧ w'.cell? ⟨(ad489.add ((t487).toNat * 3)).block, (ad489.add ((t487).toNat * 3)).off + 2, none⟩ = some (.bool ((rd_T30 t481 t487).f2))) (ds := []) #[false, false, false, false, false, false, false, false, false, false, false, false, false, false, false, false, false] (by kernel_rfl) rfl rfl ⟨hx489_0, hx489_1, hx489_2⟩ (fun hHeld => ?_); refine with_tabW spec_DrawDoneBy.tab5 spec_DrawDoneBy.bits5 (fun HT_ HW_ => ?_)
      generalize wc.drew = w20 at HO_6 HO_7 HI476 HB hx489_0 hx489_1 hx489_2 hHeld ⊢
      refine pure_ (i := 0) (N := some 23) (v := ?_) (a' := ?_) #[true, false, false, false, false, false, false, false, false, false, false, false, false, false, false, false, false] rfl rfl (any_of HT_.out (by kernel_rfl)) (fun _ _ _ h => h) (Or.inl ⟨by rfl, ?_⟩) ?_ ?_
      rotate_left
      ·
       intro w'
       go_simp
       with_reducible rfl
      rotate_left
      ·
       simp only [Act.put, List.setIfInBounds_toArray, List.set_cons_zero, List.set_cons_succ, i64_w, i32_w]
       rfl
      refine pure_ (i := 1) (N := some 24) (v := ?_) (a' := ?_) #[true, true, false, false, false, false, false, false, false, false, false, false, false, false, false, false, false] rfl rfl (any_of HT_.out (by kernel_rfl)) (fun _ _ _ h => h) (Or.inl ⟨by rfl, ?_⟩) ?_ ?_
      rotate_left
      ·
       intro w'
       go_simp
       with_reducible rfl
      rotate_left
      ·
       simp only [Act.put, List.setIfInBounds_toArray, List.set_cons_zero, List.set_cons_succ, i64_w, i32_w]
       rfl
      refine pure_ (i := 2) (N := some 25) (v := ?_) (a' := ?_) #[true, true, true, false, false, false, false, false, false, false, false, false, false, false, false, false, false] rfl rfl (any_of HT_.out (by kernel_rfl)) (fun _ _ _ h => h) (Or.inl ⟨by rfl, ?_⟩) ?_ ?_
      rotate_left
      ·
       intro w'
       go_simp
       with_reducible rfl
      rotate_left
      ·
       simp only [Act.put, List.setIfInBounds_toArray, List.set_cons_zero, List.set_cons_succ, i64_w, i32_w]
       rfl
      refine pure_ (i := 3) (N := some 26) (v := ?_) (a' := ?_) #[true, true, true, true, false, false, false, false, false, false, false, false, false, false, false, false, false] rfl rfl (any_of HT_.out (by kernel_rfl)) (fun _ _ _ h => h) (Or.inl ⟨by rfl, ?_⟩) ?_ ?_
      rotate_left
      ·
       intro w'
       go_simp
       with_reducible rfl
      rotate_left
      ·
       simp only [Act.put, List.setIfInBounds_toArray, List.set_cons_zero, List.set_cons_succ, i64_w, i32_w]
       rfl
      refine pure_ (i := 4) (N := some 27) (v := ?_) (a' := ?_) #[true, true, true, true, true, false, false, false, false, false, false, false, false, false, false, false, false] rfl rfl (any_of HT_.out (by kernel_rfl)) (fun _ _ _ h => h) (Or.inl ⟨by rfl, ?_⟩) ?_ ?_
      rotate_left
      ·
       intro w'
       go_simp
       with_reducible rfl
      rotate_left
      ·
       simp only [Act.put, List.setIfInBounds_toArray, List.set_cons_zero, List.set_cons_succ, i64_w, i32_w]
       rfl
      refine pure_ (i := 5) (N := some 28) (v := ?_) (a' := ?_) #[true, true, true, true, true, true, false, false, false, false, false, false, false, false, false, false, false] rfl rfl (any_of HT_.out (by kernel_rfl)) (fun _ _ _ h => h) (Or.inl ⟨by rfl, ?_⟩) ?_ ?_
      rotate_left
      ·
       intro w'
       go_simp
       with_reducible rfl
      rotate_left
      ·
       simp only [Act.put, List.setIfInBounds_toArray, List.set_cons_zero, List.set_cons_succ, i64_w, i32_w]
       rfl
      refine pure_ (i := 10) (N := some 33) (v := ?_) (a' := ?_) #[true, true, true, true, true, true, false, false, false, false, true, false, false, false, false, false, false] rfl rfl (any_of HT_.out (by kernel_rfl)) (fun _ _ _ h => h) (Or.inl ⟨by rfl, ?_⟩) ?_ ?_
      rotate_left
      ·
       intro w'
       go_simp
       with_reducible rfl
      rotate_left
      ·
       simp only [Act.put, List.setIfInBounds_toArray, List.set_cons_zero, List.set_cons_succ, i64_w, i32_w]
       rfl
      refine join_ (σ := Value) 5 #[true, true, true, true, true, true, true, true, true, true, true, true, false, false, false, false, false] (fun s_ => [(29, .int .i64 t487), (34, s_), (30, .pointer (some (ad489.add ((t487).toNat * 3)))), (31, .pointer (some (ad489.add ((t487).toNat * 3)))), (32, .int .i64 ((rd_T30 t481 t487).f0))]) (fun s_ w' => (w'.cell? (ad489.add ((t487).toNat * 3)) = some (.int .i64 ((rd_T30 t481 t487).f0)) ∧ w'.cell? ⟨(ad489.add ((t487).toNat * 3)).block, (ad489.add ((t487).toNat * 3)).off + 1, none⟩ = some (.int .i64 ((rd_T30 t481 t487).f1)) ∧ w'.cell? ⟨(ad489.add ((t487).toNat * 3)).block, (ad489.add ((t487).toNat * 3)).off + 2, none⟩ = some (.bool ((rd_T30 t481 t487).f2))) ∧ (Kd.R (Kd.int .i64) 3 w' w.heap.size (fun k_ => (w.heap.size ≤ k_)) s_ y490) ∧ (Kd.N k41 58 w' w.heap.size (fun k_ => (w.heap.size ≤ k_) ∧ some k_ ≠ (s_ : Value).ownBlock ∧ some k_ ≠ (.slice (some ad489) t481.length co21 : Value).ownBlock ∧ k_ ≠ g476) (.slice Ao8 t477.length co8) t477) ∧ (Kd.R k30 75 w' w.heap.size (fun k_ => (w.heap.size ≤ k_)) (.slice (some ad489) t481.length co21) t481) ∧ (IsS71 w w' g476 t474 t488) ∧ (Below w.heap.size w w')) ?_ ?_
      rotate_left
      ·
       intro hCont
       refine two_ (i := 6) (j := 11) (Ni := some 29) (Nj := some 34) #[true, true, true, true, true, true, true, false, false, false, true, false, false, false, false, false, false] #[true, true, true, true, true, true, false, false, false, false, true, true, false, false, false, false, false] rfl rfl rfl rfl (two_of HT_.out (by kernel_rfl)) (by decide) (by decide) (fun K hK => ?_) (fun K hK => ?_)
       ·
        skip
        refine goes_ Tryd.func56 (by kernel_rfl) rfl #[.pointer (some ⟨g476, 0, none⟩), .int .i64 (t481.length : Int)] (by rfl) rfl rfl (by (try simp only [List.map_toArray, List.map_cons, List.map_nil]); first | done | rfl | (simp only [List.length_drop, List.length_take]; rfl)) ?_
        with_reducible refine (spec_reader_pick.calls kj4 g476 t474 x477001_4 (t481.length : Int) t487 t488 w _ ?side1 ?side2 A16.out).mono ?_
        (case side1 => repeat (first | (with_reducible first | exact HI476.out | apply ia_ | apply in_ | apply id_ | apply is_) | exact HI476.out))
        (case side2 => repeat (first | (with_reducible first | exact HB.out | apply ba_ | apply bn_ | apply bd_ | refine below_set ?_ (IsS71.ge HI476.out)) | exact HB.out))
        rintro e w22 ⟨rfl, hi, hb, hk⟩
        have HS0_ := keep_cell hk (hHeld.1) (by first | (rw [add_block]; exact Kd.own_blk (IsS71.own_ne HI476.out HO_7.out (by decide))) | (show (Addr.add _ _).block ≠ _; rw [add_block]; exact Kd.own_blk (IsS71.own_ne HI476.out HO_7.out (by decide))) | exact Kd.own_blk (IsS71.own_ne HI476.out HO_7.out (by decide)))
        have HS1_ := keep_cell hk (hHeld.2.1) (by first | (rw [add_block]; exact Kd.own_blk (IsS71.own_ne HI476.out HO_7.out (by decide))) | (show (Addr.add _ _).block ≠ _; rw [add_block]; exact Kd.own_blk (IsS71.own_ne HI476.out HO_7.out (by decide))) | exact Kd.own_blk (IsS71.own_ne HI476.out HO_7.out (by decide)))
        have HS2_ := keep_cell hk (hHeld.2.2) (by first | (rw [add_block]; exact Kd.own_blk (IsS71.own_ne HI476.out HO_7.out (by decide))) | (show (Addr.add _ _).block ≠ _; rw [add_block]; exact Kd.own_blk (IsS71.own_ne HI476.out HO_7.out (by decide))) | exact Kd.own_blk (IsS71.own_ne HI476.out HO_7.out (by decide)))
        refine ⟨_, rfl, ?_⟩
        replace HO_6 := mk0 (Kd.N_mono (Kd.N_keep (Kd.N_mono (ok := fun k_ => (((w.heap.size ≤ k_)) ∧ (some k_ ≠ (.slice (some ad489) t481.length co21 : Value).ownBlock ∧ k_ ≠ g476))) (by (with_reducible repeat (first | apply Na_ | apply Nn_ | apply Nd_)); exact HO_6.out) (fun k_ hk_ => (⟨hk_, hk_.2.2⟩ : _ ∧ k_ ≠ g476))) hk (fun _ h => h.2)) (fun _ h => h.1))
        replace HO_7 := mk0 (Kd.R_mono (Kd.R_keep (IsS71.apart (show IsS71 w _ g476 t474 x477001_4 from by repeat (first | (with_reducible first | exact HI476.out | apply ia_ | apply in_ | apply id_ | apply is_) | exact HI476.out)) (by (with_reducible repeat (first | apply Ra_ | apply Rn_ | apply Rd_)); exact HO_7.out) (by decide)) hk (fun _ h => h.2)) (fun _ h => h.1))
        replace HB := mk0 (hb)
        replace HI476 := mk0 (hi)
        clear hb
        clear hk
        clear hi
        refine hK.out _ _ ⟨HS0_, HS1_, HS2_⟩ (fun hHeld => ?_)
        clear hK K
        refine norm_ (a' := ?_) ?_ ?_
        rotate_left
        ·
         show Act.put _ (some 29) _ = _
         simp only [Act.put, List.setIfInBounds_toArray, List.set_cons_zero, List.set_cons_succ, i64_w, i32_w]
         rfl
        refine pure_ (i := 7) (N := some 30) (v := ?_) (a' := ?_) #[true, true, true, true, true, true, true, true, false, false, true, false, false, false, false, false, false] rfl rfl (any_of HT_.out (by kernel_rfl)) (fun _ _ _ h => h) (Or.inl ⟨by rfl, ?_⟩) ?_ ?_
        rotate_left
        ·
         intro w'
         go_simp
         with_reducible rfl
        rotate_left
        ·
         simp only [Act.put, List.setIfInBounds_toArray, List.set_cons_zero, List.set_cons_succ, i64_w, i32_w]
         rfl
        refine pure_ (i := 8) (N := some 31) (v := ?_) (a' := ?_) #[true, true, true, true, true, true, true, true, true, false, true, false, false, false, false, false, false] rfl rfl (any_of HT_.out (by kernel_rfl)) (fun _ _ _ h => h) (Or.inl ⟨by rfl, ?_⟩) ?_ ?_
        rotate_left
        ·
         intro w'
         go_simp
         with_reducible rfl
        rotate_left
        ·
         simp only [Act.put, List.setIfInBounds_toArray, List.set_cons_zero, List.set_cons_succ, i64_w, i32_w]
         rfl
        refine take_ (i := 9) (N := some 32) (v := ?_) (a' := ?_) #[true, true, true, true, true, true, true, true, true, true, true, false, false, false, false, false, false] rfl rfl (take_ofW HT_.out HW_.out (by kernel_rfl)) (fun _ _ _ h => h) (Or.inl ⟨by rfl, ?_⟩) hHeld ?_ ?_
        rotate_left
        ·
         rintro w' ⟨s0, s1, s2⟩
         go_simp
         with_reducible rfl
        rotate_left
        ·
         simp only [Act.put, List.setIfInBounds_toArray, List.set_cons_zero, List.set_cons_succ, i64_w, i32_w]
         rfl
        refine one_ (i := 11) (N := some 34) #[true, true, true, true, true, true, true, true, true, true, true, true, false, false, false, false, false] rfl rfl (one_of HT_.out (by kernel_rfl)) (by decide) (fun K hK => ?_)
        refine Kd.R_lit_step (Kd.int .i64) _ 3 ?hg (N := 34) ?hd (xs := ([0, (-1), 1] : List Int)) (inner := [.int .i64 0, .int .i64 (-1), .int .i64 1]) (ok := fun _ => True) (okp := fun _ => True) ?hr ?hp (fun _ hk => hk) trivial (Below.refl _ _) (Nat.le_refl _) (by simp) ?_; (case hd => rfl); (case hg => rfl); (case hr => first | (go_simp; done) | (go_simp; rfl)); (case hp => exact (Reps.one (show Kd.M (Kd.int .i64) _ _ _ 0 [.int .i64 0] from rfl) (Reps.one (show Kd.M (Kd.int .i64) _ _ _ (-1) [.int .i64 (-1)] from rfl) (Reps.one (show Kd.M (Kd.int .i64) _ _ _ 1 [.int .i64 1] from rfl) (Reps.none _ _)))))
        intro v491 w23 ho24 hb hg_ hnew_
        have HS0_ := (hb.cell (World.block_lt_of_cell? _ _ (hHeld.1))).trans (hHeld.1)
        have HS1_ := (hb.cell (World.block_lt_of_cell? _ _ (hHeld.2.1))).trans (hHeld.2.1)
        have HS2_ := (hb.cell (World.block_lt_of_cell? _ _ (hHeld.2.2))).trans (hHeld.2.2)
        clear hg_ hnew_
        (first | rw [← Ny490.out] at ho24 | (simp only [Int.reduceToNat] at ho24; rw [← Ny490.out] at ho24))
        replace HO_6 := mk0 (Kd.N_elder' (by (with_reducible repeat (first | apply Na_ | apply Nn_ | apply Nd_)); exact HO_6.out) (Kd.R_base ho24) hb)
        replace HO_7 := mk0 (Kd.R_below (by (with_reducible repeat (first | apply Ra_ | apply Rn_ | apply Rd_)); exact HO_7.out) hb)
        have HO492 := mk0 (Kd.R_lower (Kd.R_newM (M := fun k_ => (w.heap.size ≤ k_)) ho24 (below_size (by repeat (first | (with_reducible first | exact HB.out | apply ba_ | apply bn_ | apply bd_ | refine below_set ?_ (IsS71.ge HI476.out)) | exact HB.out))) (fun k_ h_ => h_)) (below_size (by repeat (first | (with_reducible first | exact HB.out | apply ba_ | apply bn_ | apply bd_ | refine below_set ?_ (IsS71.ge HI476.out)) | exact HB.out))))
        replace HB := mk0 (below_step (by repeat (first | (with_reducible first | exact HB.out | apply ba_ | apply bn_ | apply bd_ | refine below_set ?_ (IsS71.ge HI476.out)) | exact HB.out)) hb)
        replace HI476 := mk0 (IsS71.below (by repeat (first | (with_reducible first | exact HI476.out | apply ia_ | apply in_ | apply id_ | apply is_) | exact HI476.out)) hb)
        clear hb ho24
        refine hK.out _ _ ⟨HS0_, HS1_, HS2_⟩ (fun hHeld => ?_)
        clear hK K
        refine norm_ (a' := ?_) ?_ ?_
        rotate_left
        ·
         show Act.put _ (some 34) _ = _
         simp only [Act.put, List.setIfInBounds_toArray, List.set_cons_zero, List.set_cons_succ, i64_w, i32_w]
         rfl
        exact norm_ (by simp only [putAll, Act.put, List.setIfInBounds_toArray, List.set_cons_zero, List.set_cons_succ]) (hCont (v491) _ ⟨hHeld, (by (with_reducible repeat (first | apply Ra_ | apply Rn_ | apply Rd_)); exact Kd.R_mono HO492.out (fun _ hk => hk.1)), (by (with_reducible repeat (first | apply Na_ | apply Nn_ | apply Nd_)); exact Kd.N_mono HO_6.out (fun _ hk => ⟨hk.1.1, ⟨hk.2, ⟨hk.1.2.1, hk.1.2.2⟩⟩⟩)), (by (with_reducible repeat (first | apply Ra_ | apply Rn_ | apply Rd_)); exact HO_7.out), (by repeat (first | (with_reducible first | exact HI476.out | apply ia_ | apply in_ | apply id_ | apply is_) | exact HI476.out)), (by repeat (first | (with_reducible first | exact HB.out | apply ba_ | apply bn_ | apply bd_ | refine below_set ?_ (IsS71.ge HI476.out)) | exact HB.out))⟩)
       ·
        skip
        refine Kd.R_lit_step (Kd.int .i64) _ 3 ?hg (N := 34) ?hd (xs := ([0, (-1), 1] : List Int)) (inner := [.int .i64 0, .int .i64 (-1), .int .i64 1]) (ok := fun _ => True) (okp := fun _ => True) ?hr ?hp (fun _ hk => hk) trivial (Below.refl _ _) (Nat.le_refl _) (by simp) ?_; (case hd => rfl); (case hg => rfl); (case hr => first | (go_simp; done) | (go_simp; rfl)); (case hp => exact (Reps.one (show Kd.M (Kd.int .i64) _ _ _ 0 [.int .i64 0] from rfl) (Reps.one (show Kd.M (Kd.int .i64) _ _ _ (-1) [.int .i64 (-1)] from rfl) (Reps.one (show Kd.M (Kd.int .i64) _ _ _ 1 [.int .i64 1] from rfl) (Reps.none _ _)))))
        intro v491 w22 ho23 hb hg_ hnew_
        have HS0_ := (hb.cell (World.block_lt_of_cell? _ _ (hHeld.1))).trans (hHeld.1)
        have HS1_ := (hb.cell (World.block_lt_of_cell? _ _ (hHeld.2.1))).trans (hHeld.2.1)
        have HS2_ := (hb.cell (World.block_lt_of_cell? _ _ (hHeld.2.2))).trans (hHeld.2.2)
        clear hg_ hnew_
        (first | rw [← Ny490.out] at ho23 | (simp only [Int.reduceToNat] at ho23; rw [← Ny490.out] at ho23))
        replace HO_6 := mk0 (Kd.N_elder' (by (with_reducible repeat (first | apply Na_ | apply Nn_ | apply Nd_)); exact HO_6.out) (Kd.R_base ho23) hb)
        replace HO_7 := mk0 (Kd.R_below (by (with_reducible repeat (first | apply Ra_ | apply Rn_ | apply Rd_)); exact HO_7.out) hb)
        have HO492 := mk0 (Kd.R_lower (Kd.R_newM (M := fun k_ => (w.heap.size ≤ k_)) ho23 (below_size (by repeat (first | (with_reducible first | exact HB.out | apply ba_ | apply bn_ | apply bd_ | refine below_set ?_ (IsS71.ge HI476.out)) | exact HB.out))) (fun k_ h_ => h_)) (below_size (by repeat (first | (with_reducible first | exact HB.out | apply ba_ | apply bn_ | apply bd_ | refine below_set ?_ (IsS71.ge HI476.out)) | exact HB.out))))
        replace HB := mk0 (below_step (by repeat (first | (with_reducible first | exact HB.out | apply ba_ | apply bn_ | apply bd_ | refine below_set ?_ (IsS71.ge HI476.out)) | exact HB.out)) hb)
        replace HI476 := mk0 (IsS71.below (by repeat (first | (with_reducible first | exact HI476.out | apply ia_ | apply in_ | apply id_ | apply is_) | exact HI476.out)) hb)
        clear hb ho23
        refine hK.out _ _ ⟨HS0_, HS1_, HS2_⟩ (fun hHeld => ?_)
        clear hK K
        refine norm_ (a' := ?_) ?_ ?_
        rotate_left
        ·
         show Act.put _ (some 34) _ = _
         simp only [Act.put, List.setIfInBounds_toArray, List.set_cons_zero, List.set_cons_succ, i64_w, i32_w]
         rfl
        refine one_ (i := 6) (N := some 29) #[true, true, true, true, true, true, true, false, false, false, true, true, false, false, false, false, false] rfl rfl (one_of HT_.out (by kernel_rfl)) (by decide) (fun K hK => ?_)
        refine goes_ Tryd.func56 (by kernel_rfl) rfl #[.pointer (some ⟨g476, 0, none⟩), .int .i64 (t481.length : Int)] (by rfl) rfl rfl (by (try simp only [List.map_toArray, List.map_cons, List.map_nil]); first | done | rfl | (simp only [List.length_drop, List.length_take]; rfl)) ?_
        with_reducible refine (spec_reader_pick.calls kj4 g476 t474 x477001_4 (t481.length : Int) t487 t488 w _ ?side1 ?side2 A16.out).mono ?_
        (case side1 => repeat (first | (with_reducible first | exact HI476.out | apply ia_ | apply in_ | apply id_ | apply is_) | exact HI476.out))
        (case side2 => repeat (first | (with_reducible first | exact HB.out | apply ba_ | apply bn_ | apply bd_ | refine below_set ?_ (IsS71.ge HI476.out)) | exact HB.out))
        rintro e w24 ⟨rfl, hi, hb, hk⟩
        have HS0_ := keep_cell hk (hHeld.1) (by first | (rw [add_block]; exact Kd.own_blk (IsS71.own_ne HI476.out HO_7.out (by decide))) | (show (Addr.add _ _).block ≠ _; rw [add_block]; exact Kd.own_blk (IsS71.own_ne HI476.out HO_7.out (by decide))) | exact Kd.own_blk (IsS71.own_ne HI476.out HO_7.out (by decide)))
        have HS1_ := keep_cell hk (hHeld.2.1) (by first | (rw [add_block]; exact Kd.own_blk (IsS71.own_ne HI476.out HO_7.out (by decide))) | (show (Addr.add _ _).block ≠ _; rw [add_block]; exact Kd.own_blk (IsS71.own_ne HI476.out HO_7.out (by decide))) | exact Kd.own_blk (IsS71.own_ne HI476.out HO_7.out (by decide)))
        have HS2_ := keep_cell hk (hHeld.2.2) (by first | (rw [add_block]; exact Kd.own_blk (IsS71.own_ne HI476.out HO_7.out (by decide))) | (show (Addr.add _ _).block ≠ _; rw [add_block]; exact Kd.own_blk (IsS71.own_ne HI476.out HO_7.out (by decide))) | exact Kd.own_blk (IsS71.own_ne HI476.out HO_7.out (by decide)))
        refine ⟨_, rfl, ?_⟩
        replace HO_6 := mk0 (Kd.N_mono (Kd.N_keep (Kd.N_mono (ok := fun k_ => ((((w.heap.size ≤ k_)) ∧ (some k_ ≠ (.slice (some ad489) t481.length co21 : Value).ownBlock ∧ k_ ≠ g476)) ∧ some k_ ≠ (v491 : Value).ownBlock)) (by (with_reducible repeat (first | apply Na_ | apply Nn_ | apply Nd_)); exact HO_6.out) (fun k_ hk_ => (⟨hk_, hk_.1.2.2⟩ : _ ∧ k_ ≠ g476))) hk (fun _ h => h.2)) (fun _ h => h.1))
        replace HO_7 := mk0 (Kd.R_mono (Kd.R_keep (IsS71.apart (show IsS71 w _ g476 t474 x477001_4 from by repeat (first | (with_reducible first | exact HI476.out | apply ia_ | apply in_ | apply id_ | apply is_) | exact HI476.out)) (by (with_reducible repeat (first | apply Ra_ | apply Rn_ | apply Rd_)); exact HO_7.out) (by decide)) hk (fun _ h => h.2)) (fun _ h => h.1))
        replace HO492 := mk0 (Kd.R_mono (Kd.R_keep (IsS71.apart (show IsS71 w _ g476 t474 x477001_4 from by repeat (first | (with_reducible first | exact HI476.out | apply ia_ | apply in_ | apply id_ | apply is_) | exact HI476.out)) (by (with_reducible repeat (first | apply Ra_ | apply Rn_ | apply Rd_)); exact HO492.out) (by decide)) hk (fun _ h => h.2)) (fun _ h => h.1))
        replace HB := mk0 (hb)
        replace HI476 := mk0 (hi)
        clear hb
        clear hk
        clear hi
        refine hK.out _ _ ⟨HS0_, HS1_, HS2_⟩ (fun hHeld => ?_)
        clear hK K
        refine norm_ (a' := ?_) ?_ ?_
        rotate_left
        ·
         show Act.put _ (some 29) _ = _
         simp only [Act.put, List.setIfInBounds_toArray, List.set_cons_zero, List.set_cons_succ, i64_w, i32_w]
         rfl
        refine pure_ (i := 7) (N := some 30) (v := ?_) (a' := ?_) #[true, true, true, true, true, true, true, true, false, false, true, true, false, false, false, false, false] rfl rfl (any_of HT_.out (by kernel_rfl)) (fun _ _ _ h => h) (Or.inl ⟨by rfl, ?_⟩) ?_ ?_
        rotate_left
        ·
         intro w'
         go_simp
         with_reducible rfl
        rotate_left
        ·
         simp only [Act.put, List.setIfInBounds_toArray, List.set_cons_zero, List.set_cons_succ, i64_w, i32_w]
         rfl
        refine pure_ (i := 8) (N := some 31) (v := ?_) (a' := ?_) #[true, true, true, true, true, true, true, true, true, false, true, true, false, false, false, false, false] rfl rfl (any_of HT_.out (by kernel_rfl)) (fun _ _ _ h => h) (Or.inl ⟨by rfl, ?_⟩) ?_ ?_
        rotate_left
        ·
         intro w'
         go_simp
         with_reducible rfl
        rotate_left
        ·
         simp only [Act.put, List.setIfInBounds_toArray, List.set_cons_zero, List.set_cons_succ, i64_w, i32_w]
         rfl
        refine take_ (i := 9) (N := some 32) (v := ?_) (a' := ?_) #[true, true, true, true, true, true, true, true, true, true, true, true, false, false, false, false, false] rfl rfl (take_ofW HT_.out HW_.out (by kernel_rfl)) (fun _ _ _ h => h) (Or.inl ⟨by rfl, ?_⟩) hHeld ?_ ?_
        rotate_left
        ·
         rintro w' ⟨s0, s1, s2⟩
         go_simp
         with_reducible rfl
        rotate_left
        ·
         simp only [Act.put, List.setIfInBounds_toArray, List.set_cons_zero, List.set_cons_succ, i64_w, i32_w]
         rfl
        exact norm_ (by simp only [putAll, Act.put, List.setIfInBounds_toArray, List.set_cons_zero, List.set_cons_succ]) (hCont (v491) _ ⟨hHeld, (by (with_reducible repeat (first | apply Ra_ | apply Rn_ | apply Rd_)); exact Kd.R_mono HO492.out (fun _ hk => hk.1)), (by (with_reducible repeat (first | apply Na_ | apply Nn_ | apply Nd_)); exact Kd.N_mono HO_6.out (fun _ hk => ⟨hk.1.1, ⟨hk.2, ⟨hk.1.2.1, hk.1.2.2⟩⟩⟩)), (by (with_reducible repeat (first | apply Ra_ | apply Rn_ | apply Rd_)); exact HO_7.out), (by repeat (first | (with_reducible first | exact HI476.out | apply ia_ | apply in_ | apply id_ | apply is_) | exact HI476.out)), (by repeat (first | (with_reducible first | exact HB.out | apply ba_ | apply bn_ | apply bd_ | refine below_set ?_ (IsS71.ge HI476.out)) | exact HB.out))⟩)
      rintro v491 w25 ⟨hS_, h0_, h1_, h2_, h3_, h4_⟩
      have n0_ : Aside0 (Kd.R (Kd.int .i64) 3 w25 w.heap.size (fun k_ => (w.heap.size ≤ k_)) v491 y490) := ⟨h0_⟩
      have n1_ : Aside0 (Kd.N k41 58 w25 w.heap.size (fun k_ => (w.heap.size ≤ k_) ∧ some k_ ≠ (v491 : Value).ownBlock ∧ some k_ ≠ (.slice (some ad489) t481.length co21 : Value).ownBlock ∧ k_ ≠ g476) (.slice Ao8 t477.length co8) t477) := ⟨h1_⟩
      have n2_ : Aside0 (Kd.R k30 75 w25 w.heap.size (fun k_ => (w.heap.size ≤ k_)) (.slice (some ad489) t481.length co21) t481) := ⟨h2_⟩
      have n3_ : Aside0 (IsS71 w w25 g476 t474 t488) := ⟨h3_⟩
      have n4_ : Aside0 (Below w.heap.size w w25) := ⟨h4_⟩
      clear HO_6
      clear HO_7
      clear HI476
      clear HB
      clear h0_ h1_ h2_ h3_ h4_
      have HO492 := n0_
      have HO_6 := n1_
      have HO_7 := n2_
      have HI476 := n3_
      have HB := n4_
      clear n0_ n1_ n2_ n3_ n4_
      have hHeld : w25.cell? (ad489.add ((t487).toNat * 3)) = some (.int .i64 ((rd_T30 t481 t487).f0)) ∧ w25.cell? ⟨(ad489.add ((t487).toNat * 3)).block, (ad489.add ((t487).toNat * 3)).off + 1, none⟩ = some (.int .i64 ((rd_T30 t481 t487).f1)) ∧ w25.cell? ⟨(ad489.add ((t487).toNat * 3)).block, (ad489.add ((t487).toNat * 3)).off + 2, none⟩ = some (.bool ((rd_T30 t481 t487).f2)) := hS_
      obtain ⟨Ao26, co26, eo26⟩ := Kd.R_slice HO492.out
      (first | subst eo26 | (injection eo26 with f1_ f2_ f3_; have f4_ := f1_.symm; have f5_ := f3_.symm; clear f1_ f2_ f3_; subst f4_; subst f5_))
      refine norm_ (a' := ?_) ?_ ?_
      rotate_left
      ·
       simp only [putAll, Act.put, List.setIfInBounds_toArray, List.set_cons_zero, List.set_cons_succ]
       rfl
      refine one_ (i := 12) (N := some 35) #[true, true, true, true, true, true, true, true, true, true, true, true, true, false, false, false, false] rfl rfl (one_of HT_.out (by kernel_rfl)) (by decide) (fun K hK => ?_)
      refine goes_ Tryd.func57 (by kernel_rfl) rfl #[.pointer (some ⟨g476, 0, none⟩), .slice Ao26 y490.length co26] (by rfl) rfl rfl (by (try simp only [List.map_toArray, List.map_cons, List.map_nil]); first | done | rfl | (simp only [List.length_drop, List.length_take]; rfl)) ?_
      with_reducible refine (spec_reader_one.calls kj4 g476 t474 t488 _ _ y490 t493 t494 w _ ?side1 ?side2 ?side3 ?side4 ?side5 A19.out).mono ?_
      (case side1 => repeat (first | (with_reducible first | exact HI476.out | apply ia_ | apply in_ | apply id_ | apply is_) | exact HI476.out))
      (case side2 => repeat (first | (with_reducible first | exact HB.out | apply ba_ | apply bn_ | apply bd_ | refine below_set ?_ (IsS71.ge HI476.out)) | exact HB.out))
      (case side3 => repeat (first | exact (Kd.R_reads' HO492.out).2.2 | (with_reducible first | refine Ca_ ?_ _ | refine Cn_ ?_ _ | refine Cd_ ?_)))
      (case side4 => exact (Kd.R_reads' HO492.out).2.1)
      (case side5 => exact far_slice (IsS71.own_ne HI476.out HO492.out (by decide)))
      rintro e w27 ⟨rfl, hi, hb, hk⟩
      have HS0_ := keep_cell hk (hHeld.1) (by first | (rw [add_block]; exact Kd.own_blk (IsS71.own_ne HI476.out HO_7.out (by decide))) | (show (Addr.add _ _).block ≠ _; rw [add_block]; exact Kd.own_blk (IsS71.own_ne HI476.out HO_7.out (by decide))) | exact Kd.own_blk (IsS71.own_ne HI476.out HO_7.out (by decide)))
      have HS1_ := keep_cell hk (hHeld.2.1) (by first | (rw [add_block]; exact Kd.own_blk (IsS71.own_ne HI476.out HO_7.out (by decide))) | (show (Addr.add _ _).block ≠ _; rw [add_block]; exact Kd.own_blk (IsS71.own_ne HI476.out HO_7.out (by decide))) | exact Kd.own_blk (IsS71.own_ne HI476.out HO_7.out (by decide)))
      have HS2_ := keep_cell hk (hHeld.2.2) (by first | (rw [add_block]; exact Kd.own_blk (IsS71.own_ne HI476.out HO_7.out (by decide))) | (show (Addr.add _ _).block ≠ _; rw [add_block]; exact Kd.own_blk (IsS71.own_ne HI476.out HO_7.out (by decide))) | exact Kd.own_blk (IsS71.own_ne HI476.out HO_7.out (by decide)))
      refine ⟨_, rfl, ?_⟩
      replace HO_6 := mk0 (Kd.N_mono (Kd.N_keep (Kd.N_mono (ok := fun k_ => (((w.heap.size ≤ k_)) ∧ (some k_ ≠ (.slice Ao26 y490.length co26 : Value).ownBlock ∧ (some k_ ≠ (.slice (some ad489) t481.length co21 : Value).ownBlock ∧ k_ ≠ g476)))) (by (with_reducible repeat (first | apply Na_ | apply Nn_ | apply Nd_)); exact HO_6.out) (fun k_ hk_ => (⟨hk_, hk_.2.2.2⟩ : _ ∧ k_ ≠ g476))) hk (fun _ h => h.2)) (fun _ h => h.1))
      replace HO_7 := mk0 (Kd.R_mono (Kd.R_keep (IsS71.apart (show IsS71 w _ g476 t474 t488 from by repeat (first | (with_reducible first | exact HI476.out | apply ia_ | apply in_ | apply id_ | apply is_) | exact HI476.out)) (by (with_reducible repeat (first | apply Ra_ | apply Rn_ | apply Rd_)); exact HO_7.out) (by decide)) hk (fun _ h => h.2)) (fun _ h => h.1))
      replace HO492 := mk0 (Kd.R_mono (Kd.R_keep (IsS71.apart (show IsS71 w _ g476 t474 t488 from by repeat (first | (with_reducible first | exact HI476.out | apply ia_ | apply in_ | apply id_ | apply is_) | exact HI476.out)) (by (with_reducible repeat (first | apply Ra_ | apply Rn_ | apply Rd_)); exact HO492.out) (by decide)) hk (fun _ h => h.2)) (fun _ h => h.1))
      replace HB := mk0 (hb)
      replace HI476 := mk0 (hi)
      clear hb
      clear hk
      clear hi
      refine hK.out _ _ ⟨HS0_, HS1_, HS2_⟩ (fun hHeld => ?_)
      clear hK K
      refine norm_ (a' := ?_) ?_ ?_
      rotate_left
      ·
       show Act.put _ (some 35) _ = _
       simp only [Act.put, List.setIfInBounds_toArray, List.set_cons_zero, List.set_cons_succ, i64_w, i32_w]
       rfl
      refine pure_ (i := 13) (N := some 36) (v := ?_) (a' := ?_) #[true, true, true, true, true, true, true, true, true, true, true, true, true, true, false, false, false] rfl rfl (any_of HT_.out (by kernel_rfl)) (fun _ _ _ h => h) (Or.inl ⟨by rfl, ?_⟩) ?_ ?_
      rotate_left
      ·
       intro w'
       go_simp
       with_reducible rfl
      rotate_left
      ·
       simp only [Act.put, List.setIfInBounds_toArray, List.set_cons_zero, List.set_cons_succ, i64_w, i32_w]
       rfl
      refine pure_ (i := 14) (N := some 2) (v := ?_) (a' := ?_) #[true, true, true, true, true, true, true, true, true, true, true, true, true, true, true, false, false] rfl rfl (any_of HT_.out (by kernel_rfl)) (fun _ _ _ h => h) (Or.inl ⟨by rfl, ?_⟩) ?_ ?_
      rotate_left
      ·
       intro w'
       go_simp
       with_reducible rfl
      rotate_left
      ·
       simp only [Act.put, List.setIfInBounds_toArray, List.set_cons_zero, List.set_cons_succ, i64_w, i32_w]
       rfl
      refine pure_ (i := 15) (N := some 3) (v := ?_) (a' := ?_) #[true, true, true, true, true, true, true, true, true, true, true, true, true, true, true, true, false] rfl rfl (any_of HT_.out (by kernel_rfl)) (fun _ _ _ h => h) (Or.inl ⟨by rfl, ?_⟩) ?_ ?_
      rotate_left
      ·
       intro w'
       go_simp
       with_reducible rfl
      rotate_left
      ·
       simp only [Act.put, List.setIfInBounds_toArray, List.set_cons_zero, List.set_cons_succ, i64_w, i32_w]
       rfl
      refine pure_ (i := 16) (N := some 4) (v := ?_) (a' := ?_) #[true, true, true, true, true, true, true, true, true, true, true, true, true, true, true, true, true] rfl rfl (any_of HT_.out (by kernel_rfl)) (fun _ _ _ h => h) (Or.inl ⟨by rfl, ?_⟩) ?_ ?_
      rotate_left
      ·
       intro w'
       go_simp
       with_reducible rfl
      rotate_left
      ·
       simp only [Act.put, List.setIfInBounds_toArray, List.set_cons_zero, List.set_cons_succ, i64_w, i32_w]
       rfl
      refine done_ (done_of HT_.out (by kernel_rfl)) ?_
      try go_wp2
      go_ret3
      exact ⟨_, _, by first | rfl | (simp [errW_none, errW_some] <;> rfl) | (simp [*, errW_none, errW_some] <;> rfl), by (with_reducible repeat (first | apply Na_ | apply Nn_ | apply Nd_)); exact Kd.N_mono HO_6.out (fun _ hk => ⟨hk.1, hk.2.2.1⟩), by (with_reducible repeat (first | apply Ra_ | apply Rn_ | apply Rd_)); exact HO_7.out, by repeat (first | (with_reducible first | exact HB.out | apply ba_ | apply bn_ | apply bd_ | refine below_set ?_ (IsS71.ge HI476.out)) | exact HB.out)⟩
     ·
      rw [if_neg c18] at H
      exact nn_ H
    ·
     rw [if_neg c17] at H
     exact nn_ H
   ·
    replace c15 := Bool.eq_false_iff.mpr c15
    subst c15
    rw [if_neg (show ¬ (false = true) by decide)] at H
    obtain ⟨y495, hy495⟩ : ∃ y_ : List Int, y_ = (([0, 10, 300, (-1)] : List Int)) := ⟨_, rfl⟩
    replace H : ((spec_reader_one.f kj4 t474 x477001_4 y495).bind fun bt498 => (some (t477, t481, bt498.1))) = some (r1, r2, r3) := by first | (rw [hy495]; with_reducible exact H) | (rw [hy495]; exact (Option.bind_some _ _).symm.trans H) | (rw [hy495]; exact H) | exact H
    have Ny495 := mk0 hy495
    clear hy495
    replace H := bE_ H
    obtain ⟨⟨t498, t499⟩, A280, H⟩ := H
    have A28 := mk0 A280
    clear A280
    simp only [Option.some.injEq, Prod.mk.injEq] at H
    obtain ⟨rfl, rfl, rfl⟩ := H
    go_wp2_with (first | ((with_reducible refine gate_dst (N := 40) rfl ?_); refine Kd.R_lit (Kd.int .i64) _ 3 ?hg (N := 40) ?hd (xs := ([0, 10, 300, (-1)] : List Int)) (inner := [.int .i64 0, .int .i64 10, .int .i64 300, .int .i64 (-1)]) (ok := fun _ => True) (okp := fun _ => True) ?hr ?hp (fun _ hk => hk) trivial (Below.refl _ _) (Nat.le_refl _) (by simp) ?_; (case hd => rfl); (case hg => rfl); (case hr => first | (go_simp; done) | (go_simp; rfl)); (case hp => exact (Reps.one (show Kd.M (Kd.int .i64) _ _ _ 0 [.int .i64 0] from rfl) (Reps.one (show Kd.M (Kd.int .i64) _ _ _ 10 [.int .i64 10] from rfl) (Reps.one (show Kd.M (Kd.int .i64) _ _ _ 300 [.int .i64 300] from rfl) (Reps.one (show Kd.M (Kd.int .i64) _ _ _ (-1) [.int .i64 (-1)] from rfl) (Reps.none _ _)))))); intro v496 w29 ho30 hb hg_ hnew_; clear hg_ hnew_; (first | rw [← Ny495.out] at ho30 | (simp only [Int.reduceToNat] at ho30; rw [← Ny495.out] at ho30)); replace HO_6 := mk0 (Kd.N_elder' (by (with_reducible repeat (first | apply Na_ | apply Nn_ | apply Nd_)); exact HO_6.out) (Kd.R_base ho30) hb); replace HO_7 := mk0 (Kd.R_below (by (with_reducible repeat (first | apply Ra_ | apply Rn_ | apply Rd_)); exact HO_7.out) hb); have HO497 := mk0 (Kd.R_lower (Kd.R_newM (M := fun k_ => (w.heap.size ≤ k_)) ho30 (below_size (by repeat (first | (with_reducible first | exact HB.out | apply ba_ | apply bn_ | apply bd_ | refine below_set ?_ (IsS71.ge HI476.out)) | exact HB.out))) (fun k_ h_ => h_)) (below_size (by repeat (first | (with_reducible first | exact HB.out | apply ba_ | apply bn_ | apply bd_ | refine below_set ?_ (IsS71.ge HI476.out)) | exact HB.out)))); replace HB := mk0 (below_step (by repeat (first | (with_reducible first | exact HB.out | apply ba_ | apply bn_ | apply bd_ | refine below_set ?_ (IsS71.ge HI476.out)) | exact HB.out)) hb); replace HI476 := mk0 (IsS71.below (by repeat (first | (with_reducible first | exact HI476.out | apply ia_ | apply in_ | apply id_ | apply is_) | exact HI476.out)) hb); clear hb ho30; obtain ⟨Ao31, co31, eo31⟩ := Kd.R_slice HO497.out; subst eo31) | ((with_reducible refine gate_callee (f := 57) rfl ?_); refine goesL_ (some 41) rfl rfl Tryd.func57 (by kernel_rfl) rfl #[.pointer (some ⟨g476, 0, none⟩), .slice Ao31 y495.length co31] rfl (by (try simp only [List.map_toArray, List.map_cons, List.map_nil]); first | done | rfl | (simp only [List.length_drop, List.length_take]; rfl)) ?_; (with_reducible refine (spec_reader_one.calls kj4 g476 t474 x477001_4 _ _ y495 t498 t499 w _ ?side1 ?side2 ?side3 ?side4 ?side5 A28.out).mono ?_); (case side1 => repeat (first | (with_reducible first | exact HI476.out | apply ia_ | apply in_ | apply id_ | apply is_) | exact HI476.out)); (case side2 => repeat (first | (with_reducible first | exact HB.out | apply ba_ | apply bn_ | apply bd_ | refine below_set ?_ (IsS71.ge HI476.out)) | exact HB.out)); (case side3 => repeat (first | exact (Kd.R_reads' HO497.out).2.2 | (with_reducible first | refine Ca_ ?_ _ | refine Cn_ ?_ _ | refine Cd_ ?_))); (case side4 => exact (Kd.R_reads' HO497.out).2.1); (case side5 => exact far_slice (IsS71.own_ne HI476.out HO497.out (by decide))); rintro e w32 ⟨rfl, hi, hb, hk⟩; refine ⟨_, rfl, ?_⟩; replace HO_6 := mk0 (Kd.N_mono (Kd.N_keep (Kd.N_mono (ok := fun k_ => ((((w.heap.size ≤ k_)) ∧ (some k_ ≠ (v482 : Value).ownBlock ∧ k_ ≠ g476)) ∧ some k_ ≠ (.slice Ao31 y495.length co31 : Value).ownBlock)) (by (with_reducible repeat (first | apply Na_ | apply Nn_ | apply Nd_)); exact HO_6.out) (fun k_ hk_ => (⟨hk_, hk_.1.2.2⟩ : _ ∧ k_ ≠ g476))) hk (fun _ h => h.2)) (fun _ h => h.1)); replace HO_7 := mk0 (Kd.R_mono (Kd.R_keep (IsS71.apart (show IsS71 w _ g476 t474 x477001_4 from by repeat (first | (with_reducible first | exact HI476.out | apply ia_ | apply in_ | apply id_ | apply is_) | exact HI476.out)) (by (with_reducible repeat (first | apply Ra_ | apply Rn_ | apply Rd_)); exact HO_7.out) (by decide)) hk (fun _ h => h.2)) (fun _ h => h.1)); replace HO497 := mk0 (Kd.R_mono (Kd.R_keep (IsS71.apart (show IsS71 w _ g476 t474 x477001_4 from by repeat (first | (with_reducible first | exact HI476.out | apply ia_ | apply in_ | apply id_ | apply is_) | exact HI476.out)) (by (with_reducible repeat (first | apply Ra_ | apply Rn_ | apply Rd_)); exact HO497.out) (by decide)) hk (fun _ h => h.2)) (fun _ h => h.1)); replace HB := mk0 (hb); replace HI476 := mk0 (hi); clear hb hk hi))
    go_ret3
    exact ⟨_, _, by first | rfl | (simp [errW_none, errW_some] <;> rfl) | (simp [*, errW_none, errW_some] <;> rfl), by (with_reducible repeat (first | apply Na_ | apply Nn_ | apply Nd_)); exact Kd.N_mono HO_6.out (fun _ hk => ⟨hk.1.1, hk.1.2.1⟩), by (with_reducible repeat (first | apply Ra_ | apply Rn_ | apply Rd_)); exact HO_7.out, by repeat (first | (with_reducible first | exact HB.out | apply ba_ | apply bn_ | apply bd_ | refine below_set ?_ (IsS71.ge HI476.out)) | exact HB.out)⟩
end Go.Proofs.YtpmfghbjkampkaaDoor.PFnValidLog
