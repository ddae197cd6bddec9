/- Parts of the proof, laid as one text by a program of mine. -/
import Derived.Test.YtkljcdghbefceaaGreatDoorKbtc13
namespace Go.Proofs.YtkljcdghbefceaaGreatDoor.PFnValidLog
open Go Go.RowKit Go.Proofs.YtkljcdghbefceaaGreatDoorW.PrintWords Go.Proofs.YtkljcdghbefceaaGreatDoorW.PrintLast Go.Proofs.YtkljcdghbefceaaGreatDoorW.PrintMore
attribute [local go_sem] max2_int min2_int max_two min_two max_three min_three max_four min_four
set_option linter.unusedVariables false
set_option linter.unusedSimpArgs false
def spec_anyGraph.f (k : Nat) (s0_0 : List Int) (s0_1 : Int) : Option ((List (S41)) × Int) := (spec_someGraph.f k s0_0 s0_1 8).bind fun bt184 => (if (bt184.1.length : Int) = 0 then (some (bt184.1, bt184.2)) else ((spec_reader_pick.f k s0_0 bt184.2 (bt184.1.length : Int)).bind fun bt188 => ((spec_reader_pick.f k s0_0 bt188.2 24).bind fun bt190 => (if bt190.1 = 0 then ((spec_reader_one.f k s0_0 bt190.2 (([0, 21, 20] : List Int))).bind fun bt195 => (if 0 ≤ bt188.1 then (if bt188.1 < (bt184.1.length : Int) then (some ((bt184.1.set (bt188.1 : Int).toNat (⟨bt195.1, (rd_T41 bt184.1 bt188.1).f1, (rd_T41 bt184.1 bt188.1).f2, (rd_T41 bt184.1 bt188.1).f3⟩ : S41)), bt195.2)) else (none)) else (none))) else (if bt190.1 = 1 then ((spec_reader_pick.f k s0_0 bt190.2 (bt184.1.length : Int)).bind fun bp => (if 0 ≤ bt188.1 then (if bt188.1 < (bt184.1.length : Int) then (if (rd_T41 bt184.1 bt188.1).f1.length < 17592186044416 then ((spec_reader_spoil.f k s0_0 bp.2 ((rd_T41 bt184.1 bt188.1).f1 ++ [bp.1]) 8).bind fun bs => (some ((bt184.1.set (bt188.1 : Int).toNat (⟨(rd_T41 bt184.1 bt188.1).f0, bs.1, (rd_T41 bt184.1 bt188.1).f2, (rd_T41 bt184.1 bt188.1).f3⟩ : S41)), bs.2))) else (none)) else (none)) else (none))) else (if bt190.1 = 2 then ((spec_reader_one.f k s0_0 bt190.2 (([(-1), 3] : List Int))).bind fun bt201 => (if 0 ≤ bt188.1 then (if bt188.1 < (bt184.1.length : Int) then (some ((bt184.1.set (bt188.1 : Int).toNat (⟨(rd_T41 bt184.1 bt188.1).f0, (rd_T41 bt184.1 bt188.1).f1, bt201.1, (rd_T41 bt184.1 bt188.1).f3⟩ : S41)), bt201.2)) else (none)) else (none))) else (if bt190.1 = 3 then ((spec_reader_one.f k s0_0 bt190.2 (([0, 5] : List Int))).bind fun bt207 => (if 0 ≤ bt188.1 then (if bt188.1 < (bt184.1.length : Int) then (some ((bt184.1.set (bt188.1 : Int).toNat (⟨(rd_T41 bt184.1 bt188.1).f0, (rd_T41 bt184.1 bt188.1).f1, (rd_T41 bt184.1 bt188.1).f2, bt207.1⟩ : S41)), bt207.2)) else (none)) else (none))) else (if bt190.1 = 4 then ((spec_someGraph.f k s0_0 bt190.2 8).bind fun bt210 => (if bt184.1.length + bt210.1.length < 2932031007402 then (some ((bt184.1 ++ bt210.1), bt210.2)) else (none))) else (some (bt184.1, bt190.2))))))))))
def spec_anyGraph.T9 : Bool × List (List Nat × List Nat) := (true, [([], []), ([], []), ([], []), ([], []), ([], []), ([3, 4], [3, 4]), ([5], [5]), ([6], [6]), ([], []), ([], []), ([9], [9]), ([8, 10], [8, 10]), ([11], [11]), ([7, 12, 11], [7, 12]), ([2, 13, 13], [2, 13]), ([0, 1, 0, 1, 2, 3, 4, 5, 6, 7, 8, 9, 10, 11, 12, 13, 14], [0, 1]), ([15, 0, 1, 2, 3, 4, 5, 6, 7, 8, 9, 10, 11, 12, 13, 14], [15]), ([16, 14, 14, 0, 1, 2, 3, 4, 5, 6, 7, 8, 9, 10, 11, 12, 13, 14], [14, 16])])
def spec_anyGraph.B9 : List Nat := [0, 0, 0, 0, 0, 24, 56, 120, 0, 0, 512, 1792, 3840, 8184, 16380, 32767, 65535, 131071]
theorem spec_anyGraph.tab9 : rtab .any (opsOf Tryz.f55 9) = spec_anyGraph.T9 := by kernel_rfl
theorem spec_anyGraph.bits9 : waitsOk spec_anyGraph.T9.2 spec_anyGraph.B9 = true := by kernel_rfl
set_option maxHeartbeats 8000000 in
set_option maxRecDepth 100000 in
theorem spec_anyGraph.calls (k : Nat) (g : Nat) (s0_0 : List Int) (s0_1 : Int) (r1 : List (S41)) (r2 : Int) (w0 w : World) (hI : IsS71 w0 w g s0_0 s0_1) (hB : Below w0.heap.size w0 w) (h : spec_anyGraph.f k s0_0 s0_1 = some (r1, r2)) :
 Calls Tryz.prog 55 #[.pointer (some ⟨g, 0, none⟩)] w fun e w' => ∃ v0_ : Value, e = .returned (v0_) ∧ Kd.N k41 63 w' w.heap.size (fun k_ => (w.heap.size ≤ k_)) v0_ r1 ∧ IsS71 w0 w' g s0_0 r2 ∧ Below w0.heap.size w0 w' ∧ KeepBut w w' g none := by
 have HI0 := mk0 hI
 have HK := mk0 (KeepBut.refl w g none)
 have HL := mk0 hB.size
 clear hI
 have HW0 := mk0 hB.size
 have HB := mk0 hB
 clear hB
 have H := h
 unfold spec_anyGraph.f at H
 clear h
 replace H := bE_ H
 obtain ⟨⟨t184, t187⟩, A20, H⟩ := H
 have A2 := mk0 A20
 clear A20
 by_cases c3 : (t184.length : Int) = 0
 ·
  rw [if_pos c3] at H
  have c3b0 : ((t184.length : Int) == 0) = true := beq_iff_eq.mpr c3
  have c3b1 : ((t184.length : Int) != 0) = false := bne_eq_false_iff_eq.mpr c3
  clear c3
  simp only [Option.some.injEq, Prod.mk.injEq] at H
  obtain ⟨rfl, rfl⟩ := H
  go_enter Tryz.func55, Tryz.ntmps55
  go_wp2_with (first | ((with_reducible refine gate_callee (f := 56) rfl ?_); refine goesL_ (some 6) rfl rfl Tryz.func56 (by kernel_rfl) rfl #[.pointer (some ⟨g, 0, none⟩), .int .i64 8] rfl (by (try simp only [List.map_toArray, List.map_cons, List.map_nil]); first | done | rfl | (simp only [List.length_drop, List.length_take]; rfl)) ?_; (with_reducible refine (spec_someGraph.calls k g s0_0 s0_1 8 t184 t187 w0 _ ?side1 ?side2 A2.out).mono ?_); (case side1 => with_reducible repeat (first | exact HI0.out | apply ia_ | apply in_ | apply id_ | apply is_)); (case side2 => with_reducible repeat (first | exact HB.out | apply ba_ | apply bn_ | apply bd_ | refine below_set ?_ (IsS71.ge HI0.out))); rintro e w4 ⟨v185, rfl, ho0, hi, hb, hk⟩; refine ⟨_, rfl, ?_⟩; have HO186 := mk0 (Kd.N_lower (Kd.N_mono (ok' := fun k_ => (w.heap.size ≤ k_) ∧ k_ ≠ g) (Kd.S_N (Kd.S_bound ho0)) (fun k_ hk_ => ⟨(Nat.le_trans (keep_size (w := w) (g := g) (row := none) (by with_reducible repeat (first | exact HK.out | apply ks_ | apply kn_ | apply kd_ | apply ka_))) hk_.2.1), (IsS71.fresh (by with_reducible repeat (first | exact HI0.out | apply ia_ | apply in_ | apply id_ | apply is_)) k_ hk_.2.1)⟩)) (keep_size (w := w) (g := g) (row := none) (by with_reducible repeat (first | exact HK.out | apply ks_ | apply kn_ | apply kd_ | apply ka_)))); replace HK := mk0 (KeepBut.trans (by with_reducible repeat (first | exact HK.out | apply ks_ | apply kn_ | apply kd_ | apply ka_)) hk (.inl rfl)); replace HB := mk0 (hb); replace HI0 := mk0 (hi); clear hb hk hi ho0; obtain ⟨Ao5, co5, eo5⟩ := Kd.N_slice HO186.out; subst eo5))
  go_ret
  exact ⟨_, by first | rfl | (simp [errW_none, errW_some] <;> rfl) | (simp [*, errW_none, errW_some] <;> rfl), by (with_reducible repeat (first | apply Na_ | apply Nn_ | apply Nd_)); exact Kd.N_mono HO186.out (fun _ hk => hk.1), by with_reducible repeat (first | exact HI0.out | apply ia_ | apply in_ | apply id_ | apply is_), by with_reducible repeat (first | exact HB.out | apply ba_ | apply bn_ | apply bd_ | refine below_set ?_ (IsS71.ge HI0.out)), by with_reducible repeat (first | exact HK.out | apply ks_ | apply kn_ | apply kd_ | apply ka_)⟩
 ·
  rw [if_neg c3] at H
  have c3b0 : ((t184.length : Int) == 0) = false := beq_eq_false_iff_ne.mpr c3
  have c3b1 : ((t184.length : Int) != 0) = true := bne_iff_ne.mpr c3
  have c3b2 : ¬ (t184 = []) := fun h_ => c3 (by rw [h_]; rfl)
  replace H := bE_ H
  obtain ⟨⟨t188, t189⟩, A60, H⟩ := H
  have A6 := mk0 A60
  clear A60
  replace H := bE_ H
  obtain ⟨⟨t190, t191⟩, A70, H⟩ := H
  have A7 := mk0 A70
  clear A70
  have HC_ := mk0 H
  clear H
  go_enter Tryz.func55, Tryz.ntmps55
  go_upto_region 6 with (first | ((with_reducible refine gate_callee (f := 56) rfl ?_); refine goesL_ (some 6) rfl rfl Tryz.func56 (by kernel_rfl) rfl #[.pointer (some ⟨g, 0, none⟩), .int .i64 8] rfl (by (try simp only [List.map_toArray, List.map_cons, List.map_nil]); first | done | rfl | (simp only [List.length_drop, List.length_take]; rfl)) ?_; (with_reducible refine (spec_someGraph.calls k g s0_0 s0_1 8 t184 t187 w0 _ ?side1 ?side2 A2.out).mono ?_); (case side1 => with_reducible repeat (first | exact HI0.out | apply ia_ | apply in_ | apply id_ | apply is_)); (case side2 => with_reducible repeat (first | exact HB.out | apply ba_ | apply bn_ | apply bd_ | refine below_set ?_ (IsS71.ge HI0.out))); rintro e w13 ⟨v185, rfl, ho0, hi, hb, hk⟩; refine ⟨_, rfl, ?_⟩; have HO186 := mk0 (Kd.S_lower (Kd.S_mono (ok' := fun k_ => (w.heap.size ≤ k_) ∧ k_ ≠ g) (Kd.S_bound ho0) (fun k_ hk_ => ⟨(Nat.le_trans (keep_size (w := w) (g := g) (row := none) (by with_reducible repeat (first | exact HK.out | apply ks_ | apply kn_ | apply kd_ | apply ka_))) hk_.2.1), (IsS71.fresh (by with_reducible repeat (first | exact HI0.out | apply ia_ | apply in_ | apply id_ | apply is_)) k_ hk_.2.1)⟩)) (keep_size (w := w) (g := g) (row := none) (by with_reducible repeat (first | exact HK.out | apply ks_ | apply kn_ | apply kd_ | apply ka_)))); replace HK := mk0 (KeepBut.trans (by with_reducible repeat (first | exact HK.out | apply ks_ | apply kn_ | apply kd_ | apply ka_)) hk (.inl rfl)); replace HB := mk0 (hb); replace HI0 := mk0 (hi); clear hb hk hi ho0; obtain ⟨Ao9, co9, eo9⟩ := Kd.S_slice HO186.out; subst eo9) | ((with_reducible refine gate_callee (f := 54) rfl ?_); refine goesL_ (some 14) rfl rfl Tryz.func54 (by kernel_rfl) rfl #[.pointer (some ⟨g, 0, none⟩), .int .i64 (t184.length : Int)] rfl (by (try simp only [List.map_toArray, List.map_cons, List.map_nil]); first | done | rfl | (simp only [List.length_drop, List.length_take]; rfl)) ?_; (with_reducible refine (spec_reader_pick.calls k g s0_0 t187 (t184.length : Int) t188 t189 w0 _ ?side1 ?side2 A6.out).mono ?_); (case side1 => with_reducible repeat (first | exact HI0.out | apply ia_ | apply in_ | apply id_ | apply is_)); (case side2 => with_reducible repeat (first | exact HB.out | apply ba_ | apply bn_ | apply bd_ | refine below_set ?_ (IsS71.ge HI0.out))); rintro e w15 ⟨rfl, hi, hb, hk⟩; refine ⟨_, rfl, ?_⟩; replace HO186 := mk0 (Kd.S_mono (Kd.S_keep (Kd.S_mono (ok := fun k_ => (((w.heap.size ≤ k_)) ∧ k_ ≠ g)) (by (with_reducible repeat (first | apply Sa_ | apply Sn_ | apply Sd_)); exact HO186.out) (fun k_ hk_ => (⟨hk_, hk_.2⟩ : _ ∧ k_ ≠ g))) hk (fun _ h => h.2)) (fun _ h => h.1)); replace HK := mk0 (KeepBut.trans (by with_reducible repeat (first | exact HK.out | apply ks_ | apply kn_ | apply kd_ | apply ka_)) hk (.inl rfl)); replace HB := mk0 (hb); replace HI0 := mk0 (hi); clear hb hk hi) | ((with_reducible refine gate_callee (f := 54) rfl ?_); refine goesL_ (some 16) rfl rfl Tryz.func54 (by kernel_rfl) rfl #[.pointer (some ⟨g, 0, none⟩), .int .i64 24] rfl (by (try simp only [List.map_toArray, List.map_cons, List.map_nil]); first | done | rfl | (simp only [List.length_drop, List.length_take]; rfl)) ?_; (with_reducible refine (spec_reader_pick.calls k g s0_0 t189 24 t190 t191 w0 _ ?side1 ?side2 A7.out).mono ?_); (case side1 => with_reducible repeat (first | exact HI0.out | apply ia_ | apply in_ | apply id_ | apply is_)); (case side2 => with_reducible repeat (first | exact HB.out | apply ba_ | apply bn_ | apply bd_ | refine below_set ?_ (IsS71.ge HI0.out))); rintro e w16 ⟨rfl, hi, hb, hk⟩; refine ⟨_, rfl, ?_⟩; replace HO186 := mk0 (Kd.S_mono (Kd.S_keep (Kd.S_mono (ok := fun k_ => (((w.heap.size ≤ k_)) ∧ k_ ≠ g)) (by (with_reducible repeat (first | apply Sa_ | apply Sn_ | apply Sd_)); exact HO186.out) (fun k_ hk_ => (⟨hk_, hk_.2⟩ : _ ∧ k_ ≠ g))) hk (fun _ h => h.2)) (fun _ h => h.1)); replace HK := mk0 (KeepBut.trans (by with_reducible repeat (first | exact HK.out | apply ks_ | apply kn_ | apply kd_ | apply ka_)) hk (.inl rfl)); replace HB := mk0 (hb); replace HI0 := mk0 (hi); clear hb hk hi))
  have H := HC_.out
  clear HC_
  dsimp only at H
  by_cases c8 : t190 = 0
  ·
   rw [if_pos c8] at H
   have c8b0 : (t190 == 0) = true := beq_iff_eq.mpr c8
   have c8b1 : (t190 != 0) = false := bne_eq_false_iff_eq.mpr c8
   clear c8
   obtain ⟨y192, hy192⟩ : ∃ y_ : List Int, y_ = (([0, 21, 20] : List Int)) := ⟨_, rfl⟩
   replace H : ((spec_reader_one.f k s0_0 t191 y192).bind fun bt195 => (if 0 ≤ t188 then (if t188 < (t184.length : Int) then (some ((t184.set (t188 : Int).toNat (⟨bt195.1, (rd_T41 t184 t188).f1, (rd_T41 t184 t188).f2, (rd_T41 t184 t188).f3⟩ : S41)), bt195.2)) else (none)) else (none))) = some (r1, r2) := by first | (rw [hy192]; with_reducible exact H) | (rw [hy192]; exact (Option.bind_some _ _).symm.trans H) | (rw [hy192]; exact H) | exact H
   have Ny192 := mk0 hy192
   clear hy192
   replace H := bE_ H
   obtain ⟨⟨t195, t196⟩, A90, H⟩ := H
   have A9 := mk0 A90
   clear A90
   by_cases c10 : 0 ≤ t188
   ·
    rw [if_pos c10] at H
    have c10b0 : decide (0 ≤ t188) = true := decide_eq_true c10
    clear c10
    by_cases c11 : t188 < (t184.length : Int)
    ·
     rw [if_pos c11] at H
     have c11b0 : decide (t188 < (t184.length : Int)) = true := decide_eq_true c11
     clear c11
     obtain ⟨y197, hy197⟩ : ∃ y_ : List (S41), y_ = (t184.set (t188 : Int).toNat (⟨t195, (rd_T41 t184 t188).f1, (rd_T41 t184 t188).f2, (rd_T41 t184 t188).f3⟩ : S41)) := ⟨_, rfl⟩
     replace H : (some (y197, t196)) = some (r1, r2) := by first | (rw [hy197]; with_reducible exact H) | (rw [hy197]; exact (Option.bind_some _ _).symm.trans H) | (rw [hy197]; exact H) | exact H
     have Ny197 := mk0 hy197
     clear hy197
     simp only [Option.some.injEq, Prod.mk.injEq] at H
     obtain ⟨rfl, rfl⟩ := H
     have n_ := mk0 (Kd.S_N HO186.out)
     clear HO186
     have HO186 := n_
     clear n_
     go_wp2_with (first | ((with_reducible refine gate_dst (N := 22) rfl ?_); refine Kd.R_lit (Kd.int .i64) _ 3 ?hg (N := 22) ?hd (xs := ([0, 21, 20] : List Int)) (inner := [.int .i64 0, .int .i64 21, .int .i64 20]) (ok := fun _ => True) (okp := fun _ => True) ?hr ?hp (fun _ hk => hk) trivial (Below.refl _ _) (Nat.le_refl _) (by simp) ?_; (case hd => rfl); (case hg => rfl); (case hr => first | (go_simp; done) | (go_simp; rfl)); (case hp => exact (Reps.one (show Kd.M (Kd.int .i64) _ _ _ 0 [.int .i64 0] from rfl) (Reps.one (show Kd.M (Kd.int .i64) _ _ _ 21 [.int .i64 21] from rfl) (Reps.one (show Kd.M (Kd.int .i64) _ _ _ 20 [.int .i64 20] from rfl) (Reps.none _ _))))); intro v193 w17 ho18 hb hg_ hnew_; clear hg_ hnew_; (first | rw [← Ny192.out] at ho18 | (simp only [Int.reduceToNat] at ho18; rw [← Ny192.out] at ho18)); replace HO186 := mk0 (Kd.N_elder' (by (with_reducible repeat (first | apply Na_ | apply Nn_ | apply Nd_)); exact HO186.out) (Kd.R_base ho18) hb); have HO194 := mk0 (Kd.R_lower (Kd.R_newM (M := fun k_ => (w.heap.size ≤ k_)) ho18 (keep_size (w := w) (g := g) (row := none) (by with_reducible repeat (first | exact HK.out | apply ks_ | apply kn_ | apply kd_ | apply ka_))) (fun k_ h_ => h_)) (keep_size (w := w) (g := g) (row := none) (by with_reducible repeat (first | exact HK.out | apply ks_ | apply kn_ | apply kd_ | apply ka_)))); replace HK := mk0 (KeepBut.trans (by with_reducible repeat (first | exact HK.out | apply ks_ | apply kn_ | apply kd_ | apply ka_)) (KeepBut.of_below hb g none) (.inl rfl)); replace HB := mk0 (below_step (by with_reducible repeat (first | exact HB.out | apply ba_ | apply bn_ | apply bd_ | refine below_set ?_ (IsS71.ge HI0.out))) hb); replace HI0 := mk0 (IsS71.below (by with_reducible repeat (first | exact HI0.out | apply ia_ | apply in_ | apply id_ | apply is_)) hb); clear hb ho18; obtain ⟨Ao19, co19, eo19⟩ := Kd.R_slice HO194.out; subst eo19) | ((with_reducible refine gate_callee (f := 58) rfl ?_); refine goesL_ (some 23) rfl rfl Tryz.func58 (by kernel_rfl) rfl #[.pointer (some ⟨g, 0, none⟩), .slice Ao19 y192.length co19] rfl (by (try simp only [List.map_toArray, List.map_cons, List.map_nil]); first | done | rfl | (simp only [List.length_drop, List.length_take]; rfl)) ?_; (with_reducible refine (spec_reader_one.calls k g s0_0 t191 _ _ y192 t195 t196 w0 _ ?side1 ?side2 ?side3 ?side4 ?side5 A9.out).mono ?_); (case side1 => with_reducible repeat (first | exact HI0.out | apply ia_ | apply in_ | apply id_ | apply is_)); (case side2 => with_reducible repeat (first | exact HB.out | apply ba_ | apply bn_ | apply bd_ | refine below_set ?_ (IsS71.ge HI0.out))); (case side3 => repeat (first | exact (Kd.R_reads' HO194.out).2.2 | (with_reducible first | refine Ca_ ?_ _ | refine Cn_ ?_ _ | refine Cd_ ?_))); (case side4 => exact (Kd.R_reads' HO194.out).2.1); (case side5 => exact far_slice (IsS71.own_ne HI0.out HO194.out (by decide))); rintro e w20 ⟨rfl, hi, hb, hk⟩; refine ⟨_, rfl, ?_⟩; replace HO186 := mk0 (Kd.N_mono (Kd.N_keep (Kd.N_mono (ok := fun k_ => ((((w.heap.size ≤ k_)) ∧ k_ ≠ g) ∧ some k_ ≠ (.slice Ao19 y192.length co19 : Value).ownBlock)) (by (with_reducible repeat (first | apply Na_ | apply Nn_ | apply Nd_)); exact HO186.out) (fun k_ hk_ => (⟨hk_, hk_.1.2⟩ : _ ∧ k_ ≠ g))) hk (fun _ h => h.2)) (fun _ h => h.1)); replace HO194 := mk0 (Kd.R_mono (Kd.R_keep (IsS71.apart (show IsS71 w0 _ g s0_0 t191 from by with_reducible repeat (first | exact HI0.out | apply ia_ | apply in_ | apply id_ | apply is_)) (by (with_reducible repeat (first | apply Ra_ | apply Rn_ | apply Rd_)); exact HO194.out) (by decide)) hk (fun _ h => h.2)) (fun _ h => h.1)); replace HK := mk0 (KeepBut.trans (by with_reducible repeat (first | exact HK.out | apply ks_ | apply kn_ | apply kd_ | apply ka_)) hk (.inl rfl)); replace HB := mk0 (hb); replace HI0 := mk0 (hi); clear hb hk hi; have p12 : 0 ≤ (t188 : Int) := od_ (by with_reducible assumption); have q12 : (t188 : Int) < ((t184.length : Int) : Int) := od_ (by with_reducible assumption); obtain ⟨go12, co12, eo12, gb12, gl12, cl12, HG12⟩ := Kd.N_form HO186.out (by omega); (first | cases eo12 | (injection eo12 with ea_ en_ ec_; (first | subst ea_ | (injection ea_ with ea_; subst ea_)); subst ec_; clear en_)); have GB12 := mk0 gb12; have GG12 := mk0 HG12; clear gb12 gl12 HG12; obtain ⟨ce12, hcl12, hM12, hcc12, hfr12⟩ := Kd.N_elem HO186.out z41 (t188 : Int) p12 q12; obtain ⟨ua12_1, uc12_1, rfl, ul12_1, ge12_1⟩ := k41_openF hM12; have hx12_0 : w20.cell? ⟨go12, (t188 : Int).toNat * 4, none⟩ = some (.int .i64 ((rd_T41 t184 t188).f0)) := hcc12 0 _ rfl; have hx12_1 : w20.cell? ⟨go12, (t188 : Int).toNat * 4 + 1, none⟩ = some (.slice ua12_1 ((rd_T41 t184 t188).f1).length uc12_1) := hcc12 1 _ rfl; have hx12_2 : w20.cell? ⟨go12, (t188 : Int).toNat * 4 + 2, none⟩ = some (.int .i64 ((rd_T41 t184 t188).f2)) := hcc12 2 _ rfl; have hx12_3 : w20.cell? ⟨go12, (t188 : Int).toNat * 4 + 3, none⟩ = some (.int .i64 ((rd_T41 t184 t188).f3)) := hcc12 3 _ rfl; have hf12_0 : w20.frozen? ⟨go12, (t188 : Int).toNat * 4, none⟩ = false := hfr12 0; have hf12_1 : w20.frozen? ⟨go12, (t188 : Int).toNat * 4 + 1, none⟩ = false := hfr12 1; have hf12_2 : w20.frozen? ⟨go12, (t188 : Int).toNat * 4 + 2, none⟩ = false := hfr12 2; have hf12_3 : w20.frozen? ⟨go12, (t188 : Int).toNat * 4 + 3, none⟩ = false := hfr12 3; clear hcl12 hcc12 hfr12 hM12; replace p12 := eq_true p12; replace q12 := eq_true q12; have n_ := mk0 (Kd.N_mono (ok' := (fun k_ => (w.heap.size ≤ k_) ∧ some k_ ≠ (.slice Ao19 y192.length co19 : Value).ownBlock)) HO186.out (fun k_ hk => ⟨hk.1.1, hk.2⟩)); clear HO186; have HO186 := n_; clear n_; have HX21 := mk0 (show Kd.N k41 63 w20 w.heap.size (fun k_ => (w.heap.size ≤ k_) ∧ some k_ ≠ (.slice Ao19 y192.length co19 : Value).ownBlock) (.slice (some ⟨go12, 0, none⟩) t184.length co9) t184 from (by (with_reducible repeat (first | apply Na_ | apply Nn_ | apply Nd_)); exact HO186.out)); obtain ⟨ce21, hcl21, hM21, hcc21, hfr21⟩ := Kd.N_elem HX21.out z41 (t188 : Int) (od_ (by with_reducible assumption)) (by have h_ : (t188 : Int) < ((t184.length : Int) : Int) := od_ (by with_reducible assumption); first | exact h_ | (have e_ := (Kd.N_reads' HO186.out).1; omega) | simpa using h_); obtain ⟨ua21_1, uc21_1, rfl, ul21_1, ge21_1⟩ := k41_openF hM21; have HP21 := Kd.N_seg HX21.out (t188 : Int) (od_ (by with_reducible assumption)) (by have h_ : (t188 : Int) < ((t184.length : Int) : Int) := od_ (by with_reducible assumption); first | exact h_ | (have e_ := (Kd.N_reads' HO186.out).1; omega) | simpa using h_) (seg := [.int .i64 t195]) (j := 0) hcl21 hcc21 (show 1 ≤ 4 from by decide) (x' := (⟨t195, (rd_T41 t184 t188).f1, (rd_T41 t184 t188).f2, (rd_T41 t184 t188).f3⟩ : S41)) (k41_mkF _ _ (⟨t195, (rd_T41 t184 t188).f1, (rd_T41 t184 t188).f2, (rd_T41 t184 t188).f3⟩ : S41) ul21_1 ge21_1) (fun _ hk => hk); have hx21_0 := hcc21 0 _ rfl; (try simp only [show (k41).sz = 4 from rfl, Nat.mul_one, Nat.add_zero] at hx21_0); have hf21_0 := hfr21 0; (try simp only [show (k41).sz = 4 from rfl, Nat.mul_one, Nat.add_zero] at hf21_0); clear hcl21 hcc21 hfr21 hM21) | ((with_reducible refine gate_store (t := 3) (p := 25) rfl ?_); refine store_event (t := 3) (p := 25) (v := ?vo_w22) (w1 := (w20.setCell ⟨go12, (t188 : Int).toNat * 4, none⟩ (.int .i64 t195))) ?hg ?ho ?hn ?hr ?_; (case ho => rfl); (case hg => rfl); (case hn => rfl); (case hr => first | (go_simp; done) | (go_simp; rfl)); intro w22 hw; have hg : w20.grownBy w22 (some go12) := (by rw [hw]; exact HP21.2); have hp_ : Kd.N k41 63 w22 w.heap.size (fun k_ => (w.heap.size ≤ k_) ∧ some k_ ≠ (.slice Ao19 y192.length co19 : Value).ownBlock) (.slice (some ⟨go12, 0, none⟩) t184.length co9) y197 := (by rw [hw, Ny197.out]; exact HP21.1); clear HP21; replace HI0 := mk0 (IsS71.grown (by with_reducible repeat (first | exact HI0.out | apply ia_ | apply in_ | apply id_ | apply is_)) hg (IsS71.own_neN HI0.out HO186.out (by decide))); replace HO194 := mk0 (Kd.R_over' (v := (.slice (some ⟨go12, 0, none⟩) t184.length co9)) (by (with_reducible repeat (first | apply Ra_ | apply Rn_ | apply Rd_)); exact HO194.out) (Kd.N_typed HO186.out) (by decide) hg); replace HB := mk0 ((by rw [hw]; exact below_set (HB.out) (Nat.le_trans HL.out GB12.out) : Below w0.heap.size w0 w22)); replace HK := mk0 (KeepBut.trans (by with_reducible repeat (first | exact HK.out | apply ks_ | apply kn_ | apply kd_ | apply ka_)) (KeepBut.of_grown hg g) (Kd.N_base2 HO186.out)); replace HO186 := mk0 (hp_); clear hg hw hp_))
     go_ret
     exact ⟨_, by first | rfl | (simp [errW_none, errW_some] <;> rfl) | (simp [*, errW_none, errW_some] <;> rfl), by (with_reducible repeat (first | apply Na_ | apply Nn_ | apply Nd_)); exact Kd.N_mono HO186.out (fun _ hk => hk.1), by with_reducible repeat (first | exact HI0.out | apply ia_ | apply in_ | apply id_ | apply is_), by with_reducible repeat (first | exact HB.out | apply ba_ | apply bn_ | apply bd_ | refine below_set ?_ (IsS71.ge HI0.out)), by with_reducible repeat (first | exact HK.out | apply ks_ | apply kn_ | apply kd_ | apply ka_)⟩
    ·
     rw [if_neg c11] at H
     exact nn_ H
   ·
    rw [if_neg c10] at H
    exact nn_ H
  ·
   rw [if_neg c8] at H
   have c8b0 : (t190 == 0) = false := beq_eq_false_iff_ne.mpr c8
   have c8b1 : (t190 != 0) = true := bne_iff_ne.mpr c8
   by_cases c23 : t190 = 1
   ·
    rw [if_pos c23] at H
    have c23b0 : (t190 == 1) = true := beq_iff_eq.mpr c23
    have c23b1 : (t190 != 1) = false := bne_eq_false_iff_eq.mpr c23
    clear c23
    replace H := bE_ H
    obtain ⟨⟨t300, t301⟩, A300, H⟩ := H
    dsimp only at H
    have A30 := mk0 A300
    clear A300
    by_cases d0 : 0 ≤ t188
    ·
     rw [if_pos d0] at H
     by_cases d1 : t188 < (t184.length : Int)
     ·
      rw [if_pos d1] at H
      by_cases d2 : (rd_T41 t184 t188).f1.length < 17592186044416
      ·
       rw [if_pos d2] at H
       replace H := bE_ H
       obtain ⟨⟨t302, t303⟩, A310, H⟩ := H
       dsimp only at H
       have A31 := mk0 A310
       clear A310
       simp only [Option.some.injEq, Prod.mk.injEq] at H
       obtain ⟨rfl, rfl⟩ := H
       have D2 := mk0 d2
       clear d2
       try go_wp2
       replace HO186 := mk0 (Kd.S_drew HO186.out)
       replace HI0 := mk0 (IsS71.drew HI0.out)
       replace HK := mk0 (keep_drew HK.out)
       replace HB := mk0 (below_drew1 HB.out)
       obtain ⟨go9, cg9, eg9, gb9, gl9, HG9⟩ := Kd.S_form HO186.out (by omega)
       (first | cases eg9 | (injection eg9 with ea_ en_ ec_; (first | subst ea_ | (injection ea_ with ea_; subst ea_)); subst ec_; clear en_))
       have hok9 := (Kd.S_R HO186.out).1 go9 (by simp [Value.ownBlock])
       obtain ⟨oki9, ce9, hcl9, hM9, hcc9, hoki9, hH9⟩ := Kd.S_lend HO186.out z41 t188 d0 d1
       obtain ⟨v9, rfl, hR9⟩ := k41_openM (show k41.M _ _ _ (rd_T41 t184 t188) ce9 from hM9)
       obtain ⟨A9s, c9s, rfl⟩ := Kd.R_slice hR9
       have hx9 : (w16.drew).cell? ⟨go9, t188.toNat * 4 + 1, none⟩ = some (.slice A9s (rd_T41 t184 t188).f1.length c9s) := hcc9 1 _ rfl
       have HR9 := mk0 hR9
       have HH9 := mk0 hH9
       have HOK9 := mk0 hoki9
       have HG9' := mk0 hok9
       have D0 := mk0 d0
       have D1 := mk0 d1
       clear hM9 hcc9 hcl9 hR9 hH9 hoki9 hok9 HG9 gb9 gl9
       have p9 := eq_true d0
       have q9 := eq_true d1
       clear d0 d1
       refine start_ (n := 18) (S := fun w' => w'.cell? ⟨go9, t188.toNat * 4 + 1, none⟩ = some (.slice A9s (rd_T41 t184 t188).f1.length c9s)) (ds := [13, 14, 17]) #[false, false, false, false, false, false, false, false, false, false, false, false, false, false, false, false, false, false] (by kernel_rfl) rfl rfl hx9 (fun hHeld => ?_)
       refine with_tabW spec_anyGraph.tab9 spec_anyGraph.bits9 (fun HT_ HW_ => ?_)
       generalize w16.drew = w17 at HO186 HI0 HK HB HR9 HH9 hx9 hHeld ⊢
       clear HO186
       refine pure_ (i := 0) (N := some 28) (v := ?_) (a' := ?_) #[true, false, false, false, false, false, false, false, false, false, false, false, false, false, false, false, false, false] rfl rfl (any_of HT_.out (by kernel_rfl)) (fun _ _ _ h => h) (Or.inl ⟨by rfl, ?_⟩) ?_ ?_
       rotate_left
       ·
        intro w'
        go_simp
        with_reducible rfl
       rotate_left
       ·
        simp only [Act.put, List.setIfInBounds_toArray, List.set_cons_zero, List.set_cons_succ, i64_w, i32_w]
        rfl
       refine pure_ (i := 1) (N := some 29) (v := ?_) (a' := ?_) #[true, true, false, false, false, false, false, false, false, false, false, false, false, false, false, false, false, false] rfl rfl (any_of HT_.out (by kernel_rfl)) (fun _ _ _ h => h) (Or.inl ⟨by rfl, ?_⟩) ?_ ?_
       rotate_left
       ·
        intro w'
        go_simp
        with_reducible rfl
       rotate_left
       ·
        simp only [Act.put, List.setIfInBounds_toArray, List.set_cons_zero, List.set_cons_succ, i64_w, i32_w]
        rfl
       refine pure_ (i := 2) (N := some 30) (v := ?_) (a' := ?_) #[true, true, true, false, false, false, false, false, false, false, false, false, false, false, false, false, false, false] rfl rfl (any_of HT_.out (by kernel_rfl)) (fun _ _ _ h => h) (Or.inl ⟨by rfl, ?_⟩) ?_ ?_
       rotate_left
       ·
        intro w'
        go_simp
        with_reducible rfl
       rotate_left
       ·
        simp only [Act.put, List.setIfInBounds_toArray, List.set_cons_zero, List.set_cons_succ, i64_w, i32_w]
        rfl
       refine pure_ (i := 3) (N := some 31) (v := ?_) (a' := ?_) #[true, true, true, true, false, false, false, false, false, false, false, false, false, false, false, false, false, false] rfl rfl (any_of HT_.out (by kernel_rfl)) (fun _ _ _ h => h) (Or.inl ⟨by rfl, ?_⟩) ?_ ?_
       rotate_left
       ·
        intro w'
        go_simp
        with_reducible rfl
       rotate_left
       ·
        simp only [Act.put, List.setIfInBounds_toArray, List.set_cons_zero, List.set_cons_succ, i64_w, i32_w]
        rfl
       refine pure_ (i := 4) (N := some 32) (v := ?_) (a' := ?_) #[true, true, true, true, true, false, false, false, false, false, false, false, false, false, false, false, false, false] rfl rfl (any_of HT_.out (by kernel_rfl)) (fun _ _ _ h => h) (Or.inl ⟨by rfl, ?_⟩) ?_ ?_
       rotate_left
       ·
        intro w'
        go_simp
        with_reducible rfl
       rotate_left
       ·
        simp only [Act.put, List.setIfInBounds_toArray, List.set_cons_zero, List.set_cons_succ, i64_w, i32_w]
        rfl
       refine pure_ (i := 5) (N := some 33) (v := ?_) (a' := ?_) #[true, true, true, true, true, true, false, false, false, false, false, false, false, false, false, false, false, false] rfl rfl (any_of HT_.out (by kernel_rfl)) (fun _ _ _ h => h) (Or.inl ⟨by rfl, ?_⟩) ?_ ?_
       rotate_left
       ·
        intro w'
        go_simp
        with_reducible rfl
       rotate_left
       ·
        simp only [Act.put, List.setIfInBounds_toArray, List.set_cons_zero, List.set_cons_succ, i64_w, i32_w]
        rfl
       refine pure_ (i := 6) (N := some 34) (v := ?_) (a' := ?_) #[true, true, true, true, true, true, true, false, false, false, false, false, false, false, false, false, false, false] rfl rfl (any_of HT_.out (by kernel_rfl)) (fun _ _ _ h => h) (Or.inl ⟨by rfl, ?_⟩) ?_ ?_
       rotate_left
       ·
        intro w'
        go_simp
        with_reducible rfl
       rotate_left
       ·
        simp only [Act.put, List.setIfInBounds_toArray, List.set_cons_zero, List.set_cons_succ, i64_w, i32_w]
        rfl
       refine pure_ (i := 8) (N := some 36) (v := ?_) (a' := ?_) #[true, true, true, true, true, true, true, false, true, false, false, false, false, false, false, false, false, false] rfl rfl (any_of HT_.out (by kernel_rfl)) (fun _ _ _ h => h) (Or.inl ⟨by rfl, ?_⟩) ?_ ?_
       rotate_left
       ·
        intro w'
        go_simp
        with_reducible rfl
       rotate_left
       ·
        simp only [Act.put, List.setIfInBounds_toArray, List.set_cons_zero, List.set_cons_succ, i64_w, i32_w]
        rfl
       refine pure_ (i := 9) (N := some 37) (v := ?_) (a' := ?_) #[true, true, true, true, true, true, true, false, true, true, false, false, false, false, false, false, false, false] rfl rfl (any_of HT_.out (by kernel_rfl)) (fun _ _ _ h => h) (Or.inl ⟨by rfl, ?_⟩) ?_ ?_
       rotate_left
       ·
        intro w'
        go_simp
        with_reducible rfl
       rotate_left
       ·
        simp only [Act.put, List.setIfInBounds_toArray, List.set_cons_zero, List.set_cons_succ, i64_w, i32_w]
        rfl
       refine pure_ (i := 10) (N := some 38) (v := ?_) (a' := ?_) #[true, true, true, true, true, true, true, false, true, true, true, false, false, false, false, false, false, false] rfl rfl (any_of HT_.out (by kernel_rfl)) (fun _ _ _ h => h) (Or.inl ⟨by rfl, ?_⟩) ?_ ?_
       rotate_left
       ·
        intro w'
        go_simp
        with_reducible rfl
       rotate_left
       ·
        simp only [Act.put, List.setIfInBounds_toArray, List.set_cons_zero, List.set_cons_succ, i64_w, i32_w]
        rfl
       refine take_ (i := 7) (N := some 35) (v := ?_) (a' := ?_) #[true, true, true, true, true, true, true, true, true, true, true, false, false, false, false, false, false, false] rfl rfl (take_ofW HT_.out HW_.out (by kernel_rfl)) (fun _ _ _ h => h) (Or.inl ⟨by rfl, ?_⟩) hHeld ?_ ?_
       rotate_left
       ·
        intro w' s0
        go_simp
        with_reducible rfl
       rotate_left
       ·
        simp only [Act.put, List.setIfInBounds_toArray, List.set_cons_zero, List.set_cons_succ, i64_w, i32_w]
        rfl
       refine one_ (i := 11) (N := some 39) #[true, true, true, true, true, true, true, true, true, true, true, true, false, false, false, false, false, false] rfl rfl (one_of HT_.out (by kernel_rfl)) (by decide) (fun K hK => ?_)
       refine goes_ Tryz.func54 (by kernel_rfl) rfl #[.pointer (some ⟨g, 0, none⟩), .int .i64 (t184.length : Int)] (by rfl) rfl rfl (by (try simp only [List.map_toArray, List.map_cons, List.map_nil]); first | done | rfl | (simp only [List.length_drop, List.length_take]; rfl)) ?_
       with_reducible refine (spec_reader_pick.calls k g s0_0 t191 (t184.length : Int) t300 t301 w0 _ ?side1 ?side2 A30.out).mono ?_
       case side1 => exact HI0.out
       case side2 => exact HB.out
       rintro e w18 ⟨rfl, hi, hb, hk⟩
       have HS0_ := keep_cell hk hHeld HG9'.out.2
       refine ⟨_, rfl, ?_⟩
       have n0_ := mk0 (Kd.R_keep HR9.out hk (fun k_ h_ => (HOK9.out k_ h_).1.2))
       have n1_ := mk0 (Kd.H_keep HH9.out hk (fun _ h_ => h_.2))
       have n2_ := mk0 (KeepBut.trans HK.out hk (.inl rfl))
       clear HR9 HH9 HK HB HI0 hx9
       have HR9 := n0_
       have HH9 := n1_
       have HK := n2_
       have HB := mk0 hb
       have HI0 := mk0 hi
       clear n0_ n1_ n2_ hb hi hk
       refine hK.out _ _ HS0_ (fun hHeld => ?_)
       clear hK K
       refine norm_ (a' := ?_) ?_ ?_
       rotate_left
       ·
        show Act.put _ (some 39) _ = _
        simp only [Act.put, List.setIfInBounds_toArray, List.set_cons_zero, List.set_cons_succ, i64_w, i32_w]
        rfl
       refine one_ (i := 12) (N := some 40) #[true, true, true, true, true, true, true, true, true, true, true, true, true, false, false, false, false, false] rfl rfl (one_of HT_.out (by kernel_rfl)) (by decide) (fun K hK => ?_)
       refine Kd.R_lit_step (Kd.int .i64) _ 3 ?hg (N := 40) ?hd (xs := ([t300] : List Int)) (inner := [.int .i64 t300]) (ok := fun _ => True) (okp := fun _ => True) ?hr ?hp (fun _ hk => hk) trivial (Below.refl _ _) (Nat.le_refl _) (by simp) ?_
       case hd => rfl
       case hg => rfl
       case hr => first | (go_simp; done) | (go_simp; rfl)
       case hp => exact (Reps.one (show Kd.M (Kd.int .i64) _ _ _ t300 [.int .i64 t300] from rfl) (Reps.none _ _))
       intro v40 w19 ho40 hb hg_ hnew_
       clear hg_ hnew_
       have HS0_ := (hb.cell (World.block_lt_of_cell? _ _ hHeld)).trans hHeld
       replace HR9 := mk0 (Kd.R_below HR9.out hb)
       replace HH9 := mk0 (Kd.H_below HH9.out hb)
       replace HK := mk0 (KeepBut.trans HK.out (KeepBut.of_below hb g none) (.inl rfl))
       replace HB := mk0 (below_step HB.out hb)
       replace HI0 := mk0 (IsS71.below HI0.out hb)
       clear hb
       obtain ⟨A40, c40, rfl⟩ := Kd.R_slice ho40
       have HR40 := mk0 ho40
       clear ho40
       refine hK.out _ _ HS0_ (fun hHeld => ?_)
       clear hK K
       refine norm_ (a' := ?_) ?_ ?_
       rotate_left
       ·
        show Act.put _ (some 40) _ = _
        simp only [Act.put, List.setIfInBounds_toArray, List.set_cons_zero, List.set_cons_succ, i64_w, i32_w]
        rfl
       refine last_ (i := 13) (N := some 41) #[true, true, true, true, true, true, true, true, true, true, true, true, true, true, false, false, false, false] rfl rfl (one_of HT_.out (by kernel_rfl)) (by decide) (fun K hK => ?_)
       refine Kd.R_append_rows_step (Kd.int .i64) (Rr := (Kd.int .i64).K w19) (w0 := w0) w0.heap.size (by rfl) (.tmp 35) (.tmp 40) 24 3 (.int .i64 0) 8 rfl Tryz.underlying24 info3 rfl (by decide) (by omega) (.slice A9s (rd_T41 t184 t188).f1.length c9s) (rd_T41 t184 t188).f1 [t300] A40 1 c40 (fun k_ => oki9 k_ ∨ w19.heap.size ≤ k_) (fun _ => False) rfl rfl (Kd.R_mono (Kd.R_lower HR9.out HL.out) (fun _ h => Or.inl h)) (Kd.R_reads' HR40.out).2.2 (fun _ _ h => h) (fun _ h => h.elim) (fun _ h => Or.inr h) HB.out HB.out.size (by have := D2.out; omega) ?_
       intro v41 w20 ho41 hb hg hat
       have n0_ := mk0 (Kd.H_grown HH9.out hg HR9.out.1)
       have n1_ := mk0 (IsS71.grown HI0.out hg (IsS71.own_ne HI0.out HR9.out (by decide)))
       have n2_ := mk0 (KeepBut.trans HK.out (KeepBut.of_grown hg g) (Kd.R_base2 HR9.out))
       clear HR9 HH9 HK HB HI0 hHeld HR40
       have HH9 := n0_
       have HI0 := n1_
       have HK := n2_
       have HB := mk0 hb
       clear n0_ n1_ n2_ hb hg hat
       obtain ⟨A41, c41, rfl⟩ := Kd.R_slice ho41
       have HR41 := mk0 ho41
       clear ho41
       refine hK.out _ _ ?_
       clear hK K
       refine norm_ (a' := ?_) ?_ ?_
       rotate_left
       ·
        show Act.put _ (some 41) _ = _
        simp only [Act.put, List.setIfInBounds_toArray, List.set_cons_zero, List.set_cons_succ, i64_w, i32_w]
        rfl
       refine last_ (i := 14) (N := some 42) #[true, true, true, true, true, true, true, true, true, true, true, true, true, true, true, false, false, false] rfl rfl (one_of HT_.out (by kernel_rfl)) (by decide) (fun K hK => ?_)
       refine goes_ Tryz.func57 (by kernel_rfl) rfl #[.pointer (some ⟨g, 0, none⟩), .slice A41 ((rd_T41 t184 t188).f1 ++ [t300]).length c41, .int .i64 8] (by rfl) rfl rfl (by (try simp only [List.map_toArray, List.map_cons, List.map_nil]); first | done | rfl | (simp only [List.length_drop, List.length_take]; rfl)) ?_
       with_reducible refine (spec_reader_spoil.calls k g s0_0 t301 A41 c41 ((rd_T41 t184 t188).f1 ++ [t300]) 8 t302 t303 w0 _ ?side1 ?side2 ?side3 ?side4 ?side5 A31.out).mono ?_
       case side1 => exact HI0.out
       case side2 => exact HB.out
       case side3 => exact (Kd.R_reads' HR41.out).2.2
       case side4 => exact (Kd.R_reads' HR41.out).2.1
       case side5 => exact far_slice (IsS71.own_ne HI0.out HR41.out (by decide))
       rintro e w21 ⟨v42, rfl, ho42, hi, hb, hk⟩
       refine ⟨_, rfl, ?_⟩
       have n0_ := mk0 (Kd.H_keep HH9.out hk (fun _ h_ => h_.2))
       have n1_ := mk0 (KeepBut.trans HK.out hk (.inl rfl))
       have hlt9 : go9 < w20.heap.size := Kd.H_lt9 HH9.out
       have hsz9 : w.heap.size ≤ w20.heap.size := HK.out.1
       clear HH9 HK HB HI0 HR41
       have HH9 := n0_
       have HK := n1_
       have HB := mk0 hb
       have HI0 := mk0 hi
       clear n0_ n1_ hb hi hk
       obtain ⟨A42, c42, rfl, hl42, hC42⟩ := Kd.Q_reads ho42
       have HQ42 := mk0 (Kd.Q_mono (ok' := fun k_ => w.heap.size ≤ k_ ∧ k_ ≠ go9) (Kd.Q_bound ho42) (fun k_ h_ => ⟨Nat.le_trans hsz9 h_.2.1, by have := h_.2.1; omega⟩))
       have HL42 := mk0 hl42
       clear ho42 hl42 hC42 hlt9 hsz9
       obtain ⟨hcc9, hfr9⟩ := Kd.H_at HH9.out D0.out D1.out
       have hx21 : w21.cell? ⟨go9, t188.toNat * 4 + 1, none⟩ = some (.slice A9s (rd_T41 t184 t188).f1.length c9s) := hcc9 1 _ rfl
       have hf21 : w21.frozen? ⟨go9, t188.toNat * 4 + 1, none⟩ = false := hfr9 1
       clear hcc9 hfr9
       refine hK.out _ _ ?_
       clear hK K
       refine norm_ (a' := ?_) ?_ ?_
       rotate_left
       ·
        show Act.put _ (some 42) _ = _
        simp only [Act.put, List.setIfInBounds_toArray, List.set_cons_zero, List.set_cons_succ, i64_w, i32_w]
        rfl
       refine pure_ (i := 15) (N := some 43) (v := ?_) (a' := ?_) #[true, true, true, true, true, true, true, true, true, true, true, true, true, true, true, true, false, false] rfl rfl (any_of HT_.out (by kernel_rfl)) (fun _ _ _ h => h) (Or.inl ⟨by rfl, ?_⟩) ?_ ?_
       rotate_left
       ·
        intro w'
        go_simp
        with_reducible rfl
       rotate_left
       ·
        simp only [Act.put, List.setIfInBounds_toArray, List.set_cons_zero, List.set_cons_succ, i64_w, i32_w]
        rfl
       refine pure_ (i := 16) (N := some 44) (v := ?_) (a' := ?_) #[true, true, true, true, true, true, true, true, true, true, true, true, true, true, true, true, true, false] rfl rfl (any_of HT_.out (by kernel_rfl)) (fun _ _ _ h => h) (Or.inl ⟨by rfl, ?_⟩) ?_ ?_
       rotate_left
       ·
        intro w'
        go_simp
        with_reducible rfl
       rotate_left
       ·
        simp only [Act.put, List.setIfInBounds_toArray, List.set_cons_zero, List.set_cons_succ, i64_w, i32_w]
        rfl
       refine last_ (i := 17) (N := none) #[true, true, true, true, true, true, true, true, true, true, true, true, true, true, true, true, true, true] rfl rfl (one_of HT_.out (by kernel_rfl)) (by decide) (fun K hK => ?_)
       refine skip_ (w1 := w21.setCell ⟨go9, t188.toNat * 4 + 1, none⟩ (.slice A42 t302.length c42)) (by rfl) rfl ?_ ?_
       ·
        first | (go_simp; done) | (go_simp; rfl)
       refine hK.out _ _ ?_
       clear hK K
       refine done_ (done_of HT_.out (by kernel_rfl)) ?_
       try go_wp2
       go_ret
       have HP := Kd.H_seg HH9.out D0.out D1.out (seg := [.slice A42 t302.length c42]) (j := 1) (show 2 ≤ 4 from by decide) (by intro q hq; rw [List.mem_singleton.1 hq]; rfl)
       have hF := k41_mkF (w21.setCell ⟨go9, t188.toNat * 4 + 1, none⟩ (.slice A42 t302.length c42)) (fun k_ => w.heap.size ≤ k_ ∧ k_ ≠ go9) (⟨(rd_T41 t184 t188).f0, t302, (rd_T41 t184 t188).f2, (rd_T41 t184 t188).f3⟩ : S41) HL42.out (Kd.Q_F (Kd.Q_far (p := ⟨go9, t188.toNat * 4 + 1, none⟩) HQ42.out (fun _ hk => hk.2) (.slice A42 t302.length c42)))
       have hlen9 := D1.out
       exact ⟨_, rfl, Kd.H_N HP.1 D0.out (by omega) hF (fun k_ h_ => ⟨h_.1, by simp [Value.ownBlock]; exact fun e_ => h_.2 e_⟩) (fun k_ h_ => h_.1), IsS71.far HI0.out (fun e_ => HG9'.out.2 e_.symm) _, below_set HB.out (Nat.le_trans HL.out HG9'.out.1), KeepBut.trans HK.out (KeepBut.of_grown HP.2 g) (.inr ⟨go9, rfl, HG9'.out.1⟩)⟩
      ·
       rw [if_neg d2] at H
       exact nn_ H
     ·
      rw [if_neg d1] at H
      exact nn_ H
    ·
     rw [if_neg d0] at H
     exact nn_ H
   ·
    rw [if_neg c23] at H
    have c23b0 : (t190 == 1) = false := beq_eq_false_iff_ne.mpr c23
    have c23b1 : (t190 != 1) = true := bne_iff_ne.mpr c23
    by_cases c28 : t190 = 2
    ·
     rw [if_pos c28] at H
     have c28b0 : (t190 == 2) = true := beq_iff_eq.mpr c28
     have c28b1 : (t190 != 2) = false := bne_eq_false_iff_eq.mpr c28
     clear c28
     obtain ⟨y198, hy198⟩ : ∃ y_ : List Int, y_ = (([(-1), 3] : List Int)) := ⟨_, rfl⟩
     replace H : ((spec_reader_one.f k s0_0 t191 y198).bind fun bt201 => (if 0 ≤ t188 then (if t188 < (t184.length : Int) then (some ((t184.set (t188 : Int).toNat (⟨(rd_T41 t184 t188).f0, (rd_T41 t184 t188).f1, bt201.1, (rd_T41 t184 t188).f3⟩ : S41)), bt201.2)) else (none)) else (none))) = some (r1, r2) := by first | (rw [hy198]; with_reducible exact H) | (rw [hy198]; exact (Option.bind_some _ _).symm.trans H) | (rw [hy198]; exact H) | exact H
     have Ny198 := mk0 hy198
     clear hy198
     replace H := bE_ H
     obtain ⟨⟨t201, t202⟩, A290, H⟩ := H
     have A29 := mk0 A290
     clear A290
     by_cases c30 : 0 ≤ t188
     ·
      rw [if_pos c30] at H
      have c30b0 : decide (0 ≤ t188) = true := decide_eq_true c30
      clear c30
      by_cases c31 : t188 < (t184.length : Int)
      ·
       rw [if_pos c31] at H
       have c31b0 : decide (t188 < (t184.length : Int)) = true := decide_eq_true c31
       clear c31
       obtain ⟨y203, hy203⟩ : ∃ y_ : List (S41), y_ = (t184.set (t188 : Int).toNat (⟨(rd_T41 t184 t188).f0, (rd_T41 t184 t188).f1, t201, (rd_T41 t184 t188).f3⟩ : S41)) := ⟨_, rfl⟩
       replace H : (some (y203, t202)) = some (r1, r2) := by first | (rw [hy203]; with_reducible exact H) | (rw [hy203]; exact (Option.bind_some _ _).symm.trans H) | (rw [hy203]; exact H) | exact H
       have Ny203 := mk0 hy203
       clear hy203
       simp only [Option.some.injEq, Prod.mk.injEq] at H
       obtain ⟨rfl, rfl⟩ := H
       have n_ := mk0 (Kd.S_N HO186.out)
       clear HO186
       have HO186 := n_
       clear n_
       go_wp2_with (first | ((with_reducible refine gate_dst (N := 50) rfl ?_); refine Kd.R_lit (Kd.int .i64) _ 3 ?hg (N := 50) ?hd (xs := ([(-1), 3] : List Int)) (inner := [.int .i64 (-1), .int .i64 3]) (ok := fun _ => True) (okp := fun _ => True) ?hr ?hp (fun _ hk => hk) trivial (Below.refl _ _) (Nat.le_refl _) (by simp) ?_; (case hd => rfl); (case hg => rfl); (case hr => first | (go_simp; done) | (go_simp; rfl)); (case hp => exact (Reps.one (show Kd.M (Kd.int .i64) _ _ _ (-1) [.int .i64 (-1)] from rfl) (Reps.one (show Kd.M (Kd.int .i64) _ _ _ 3 [.int .i64 3] from rfl) (Reps.none _ _)))); intro v199 w37 ho38 hb hg_ hnew_; clear hg_ hnew_; (first | rw [← Ny198.out] at ho38 | (simp only [Int.reduceToNat] at ho38; rw [← Ny198.out] at ho38)); replace HO186 := mk0 (Kd.N_elder' (by (with_reducible repeat (first | apply Na_ | apply Nn_ | apply Nd_)); exact HO186.out) (Kd.R_base ho38) hb); have HO200 := mk0 (Kd.R_lower (Kd.R_newM (M := fun k_ => (w.heap.size ≤ k_)) ho38 (keep_size (w := w) (g := g) (row := none) (by with_reducible repeat (first | exact HK.out | apply ks_ | apply kn_ | apply kd_ | apply ka_))) (fun k_ h_ => h_)) (keep_size (w := w) (g := g) (row := none) (by with_reducible repeat (first | exact HK.out | apply ks_ | apply kn_ | apply kd_ | apply ka_)))); replace HK := mk0 (KeepBut.trans (by with_reducible repeat (first | exact HK.out | apply ks_ | apply kn_ | apply kd_ | apply ka_)) (KeepBut.of_below hb g none) (.inl rfl)); replace HB := mk0 (below_step (by with_reducible repeat (first | exact HB.out | apply ba_ | apply bn_ | apply bd_ | refine below_set ?_ (IsS71.ge HI0.out))) hb); replace HI0 := mk0 (IsS71.below (by with_reducible repeat (first | exact HI0.out | apply ia_ | apply in_ | apply id_ | apply is_)) hb); clear hb ho38; obtain ⟨Ao39, co39, eo39⟩ := Kd.R_slice HO200.out; subst eo39) | ((with_reducible refine gate_callee (f := 58) rfl ?_); refine goesL_ (some 51) rfl rfl Tryz.func58 (by kernel_rfl) rfl #[.pointer (some ⟨g, 0, none⟩), .slice Ao39 y198.length co39] rfl (by (try simp only [List.map_toArray, List.map_cons, List.map_nil]); first | done | rfl | (simp only [List.length_drop, List.length_take]; rfl)) ?_; (with_reducible refine (spec_reader_one.calls k g s0_0 t191 _ _ y198 t201 t202 w0 _ ?side1 ?side2 ?side3 ?side4 ?side5 A29.out).mono ?_); (case side1 => with_reducible repeat (first | exact HI0.out | apply ia_ | apply in_ | apply id_ | apply is_)); (case side2 => with_reducible repeat (first | exact HB.out | apply ba_ | apply bn_ | apply bd_ | refine below_set ?_ (IsS71.ge HI0.out))); (case side3 => repeat (first | exact (Kd.R_reads' HO200.out).2.2 | (with_reducible first | refine Ca_ ?_ _ | refine Cn_ ?_ _ | refine Cd_ ?_))); (case side4 => exact (Kd.R_reads' HO200.out).2.1); (case side5 => exact far_slice (IsS71.own_ne HI0.out HO200.out (by decide))); rintro e w40 ⟨rfl, hi, hb, hk⟩; refine ⟨_, rfl, ?_⟩; replace HO186 := mk0 (Kd.N_mono (Kd.N_keep (Kd.N_mono (ok := fun k_ => ((((w.heap.size ≤ k_)) ∧ k_ ≠ g) ∧ some k_ ≠ (.slice Ao39 y198.length co39 : Value).ownBlock)) (by (with_reducible repeat (first | apply Na_ | apply Nn_ | apply Nd_)); exact HO186.out) (fun k_ hk_ => (⟨hk_, hk_.1.2⟩ : _ ∧ k_ ≠ g))) hk (fun _ h => h.2)) (fun _ h => h.1)); replace HO200 := mk0 (Kd.R_mono (Kd.R_keep (IsS71.apart (show IsS71 w0 _ g s0_0 t191 from by with_reducible repeat (first | exact HI0.out | apply ia_ | apply in_ | apply id_ | apply is_)) (by (with_reducible repeat (first | apply Ra_ | apply Rn_ | apply Rd_)); exact HO200.out) (by decide)) hk (fun _ h => h.2)) (fun _ h => h.1)); replace HK := mk0 (KeepBut.trans (by with_reducible repeat (first | exact HK.out | apply ks_ | apply kn_ | apply kd_ | apply ka_)) hk (.inl rfl)); replace HB := mk0 (hb); replace HI0 := mk0 (hi); clear hb hk hi; have p32 : 0 ≤ (t188 : Int) := od_ (by with_reducible assumption); have q32 : (t188 : Int) < ((t184.length : Int) : Int) := od_ (by with_reducible assumption); obtain ⟨go32, co32, eo32, gb32, gl32, cl32, HG32⟩ := Kd.N_form HO186.out (by omega); (first | cases eo32 | (injection eo32 with ea_ en_ ec_; (first | subst ea_ | (injection ea_ with ea_; subst ea_)); subst ec_; clear en_)); have GB32 := mk0 gb32; have GG32 := mk0 HG32; clear gb32 gl32 HG32; obtain ⟨ce32, hcl32, hM32, hcc32, hfr32⟩ := Kd.N_elem HO186.out z41 (t188 : Int) p32 q32; obtain ⟨ua32_1, uc32_1, rfl, ul32_1, ge32_1⟩ := k41_openF hM32; have hx32_0 : w40.cell? ⟨go32, (t188 : Int).toNat * 4, none⟩ = some (.int .i64 ((rd_T41 t184 t188).f0)) := hcc32 0 _ rfl; have hx32_1 : w40.cell? ⟨go32, (t188 : Int).toNat * 4 + 1, none⟩ = some (.slice ua32_1 ((rd_T41 t184 t188).f1).length uc32_1) := hcc32 1 _ rfl; have hx32_2 : w40.cell? ⟨go32, (t188 : Int).toNat * 4 + 2, none⟩ = some (.int .i64 ((rd_T41 t184 t188).f2)) := hcc32 2 _ rfl; have hx32_3 : w40.cell? ⟨go32, (t188 : Int).toNat * 4 + 3, none⟩ = some (.int .i64 ((rd_T41 t184 t188).f3)) := hcc32 3 _ rfl; have hf32_0 : w40.frozen? ⟨go32, (t188 : Int).toNat * 4, none⟩ = false := hfr32 0; have hf32_1 : w40.frozen? ⟨go32, (t188 : Int).toNat * 4 + 1, none⟩ = false := hfr32 1; have hf32_2 : w40.frozen? ⟨go32, (t188 : Int).toNat * 4 + 2, none⟩ = false := hfr32 2; have hf32_3 : w40.frozen? ⟨go32, (t188 : Int).toNat * 4 + 3, none⟩ = false := hfr32 3; clear hcl32 hcc32 hfr32 hM32; replace p32 := eq_true p32; replace q32 := eq_true q32; have n_ := mk0 (Kd.N_mono (ok' := (fun k_ => (w.heap.size ≤ k_) ∧ some k_ ≠ (.slice Ao39 y198.length co39 : Value).ownBlock)) HO186.out (fun k_ hk => ⟨hk.1.1, hk.2⟩)); clear HO186; have HO186 := n_; clear n_; have HX41 := mk0 (show Kd.N k41 63 w40 w.heap.size (fun k_ => (w.heap.size ≤ k_) ∧ some k_ ≠ (.slice Ao39 y198.length co39 : Value).ownBlock) (.slice (some ⟨go32, 0, none⟩) t184.length co9) t184 from (by (with_reducible repeat (first | apply Na_ | apply Nn_ | apply Nd_)); exact HO186.out)); obtain ⟨ce41, hcl41, hM41, hcc41, hfr41⟩ := Kd.N_elem HX41.out z41 (t188 : Int) (od_ (by with_reducible assumption)) (by have h_ : (t188 : Int) < ((t184.length : Int) : Int) := od_ (by with_reducible assumption); first | exact h_ | (have e_ := (Kd.N_reads' HO186.out).1; omega) | simpa using h_); obtain ⟨ua41_1, uc41_1, rfl, ul41_1, ge41_1⟩ := k41_openF hM41; have HP41 := Kd.N_seg HX41.out (t188 : Int) (od_ (by with_reducible assumption)) (by have h_ : (t188 : Int) < ((t184.length : Int) : Int) := od_ (by with_reducible assumption); first | exact h_ | (have e_ := (Kd.N_reads' HO186.out).1; omega) | simpa using h_) (seg := [.int .i64 t201]) (j := 2) hcl41 hcc41 (show 3 ≤ 4 from by decide) (x' := (⟨(rd_T41 t184 t188).f0, (rd_T41 t184 t188).f1, t201, (rd_T41 t184 t188).f3⟩ : S41)) (k41_mkF _ _ (⟨(rd_T41 t184 t188).f0, (rd_T41 t184 t188).f1, t201, (rd_T41 t184 t188).f3⟩ : S41) ul41_1 ge41_1) (fun _ hk => hk); have hx41_2 := hcc41 2 _ rfl; (try simp only [show (k41).sz = 4 from rfl, Nat.mul_one, Nat.add_zero] at hx41_2); have hf41_2 := hfr41 2; (try simp only [show (k41).sz = 4 from rfl, Nat.mul_one, Nat.add_zero] at hf41_2); clear hcl41 hcc41 hfr41 hM41) | ((with_reducible refine gate_store (t := 3) (p := 53) rfl ?_); refine store_event (t := 3) (p := 53) (v := ?vo_w42) (w1 := (w40.setCell ⟨go32, (t188 : Int).toNat * 4 + 2, none⟩ (.int .i64 t201))) ?hg ?ho ?hn ?hr ?_; (case ho => rfl); (case hg => rfl); (case hn => rfl); (case hr => first | (go_simp; done) | (go_simp; rfl)); intro w42 hw; have hg : w40.grownBy w42 (some go32) := (by rw [hw]; exact HP41.2); have hp_ : Kd.N k41 63 w42 w.heap.size (fun k_ => (w.heap.size ≤ k_) ∧ some k_ ≠ (.slice Ao39 y198.length co39 : Value).ownBlock) (.slice (some ⟨go32, 0, none⟩) t184.length co9) y203 := (by rw [hw, Ny203.out]; exact HP41.1); clear HP41; replace HI0 := mk0 (IsS71.grown (by with_reducible repeat (first | exact HI0.out | apply ia_ | apply in_ | apply id_ | apply is_)) hg (IsS71.own_neN HI0.out HO186.out (by decide))); replace HO200 := mk0 (Kd.R_over' (v := (.slice (some ⟨go32, 0, none⟩) t184.length co9)) (by (with_reducible repeat (first | apply Ra_ | apply Rn_ | apply Rd_)); exact HO200.out) (Kd.N_typed HO186.out) (by decide) hg); replace HB := mk0 ((by rw [hw]; exact below_set (HB.out) (Nat.le_trans HL.out GB32.out) : Below w0.heap.size w0 w42)); replace HK := mk0 (KeepBut.trans (by with_reducible repeat (first | exact HK.out | apply ks_ | apply kn_ | apply kd_ | apply ka_)) (KeepBut.of_grown hg g) (Kd.N_base2 HO186.out)); replace HO186 := mk0 (hp_); clear hg hw hp_))
       go_ret
       exact ⟨_, by first | rfl | (simp [errW_none, errW_some] <;> rfl) | (simp [*, errW_none, errW_some] <;> rfl), by (with_reducible repeat (first | apply Na_ | apply Nn_ | apply Nd_)); exact Kd.N_mono HO186.out (fun _ hk => hk.1), by with_reducible repeat (first | exact HI0.out | apply ia_ | apply in_ | apply id_ | apply is_), by with_reducible repeat (first | exact HB.out | apply ba_ | apply bn_ | apply bd_ | refine below_set ?_ (IsS71.ge HI0.out)), by with_reducible repeat (first | exact HK.out | apply ks_ | apply kn_ | apply kd_ | apply ka_)⟩
      ·
       rw [if_neg c31] at H
       exact nn_ H
     ·
      rw [if_neg c30] at H
      exact nn_ H
    ·
     rw [if_neg c28] at H
     have c28b0 : (t190 == 2) = false := beq_eq_false_iff_ne.mpr c28
     have c28b1 : (t190 != 2) = true := bne_iff_ne.mpr c28
     by_cases c43 : t190 = 3
     ·
      rw [if_pos c43] at H
      have c43b0 : (t190 == 3) = true := beq_iff_eq.mpr c43
      have c43b1 : (t190 != 3) = false := bne_eq_false_iff_eq.mpr c43
      clear c43
      obtain ⟨y204, hy204⟩ : ∃ y_ : List Int, y_ = (([0, 5] : List Int)) := ⟨_, rfl⟩
      replace H : ((spec_reader_one.f k s0_0 t191 y204).bind fun bt207 => (if 0 ≤ t188 then (if t188 < (t184.length : Int) then (some ((t184.set (t188 : Int).toNat (⟨(rd_T41 t184 t188).f0, (rd_T41 t184 t188).f1, (rd_T41 t184 t188).f2, bt207.1⟩ : S41)), bt207.2)) else (none)) else (none))) = some (r1, r2) := by first | (rw [hy204]; with_reducible exact H) | (rw [hy204]; exact (Option.bind_some _ _).symm.trans H) | (rw [hy204]; exact H) | exact H
      have Ny204 := mk0 hy204
      clear hy204
      replace H := bE_ H
      obtain ⟨⟨t207, t208⟩, A440, H⟩ := H
      have A44 := mk0 A440
      clear A440
      by_cases c45 : 0 ≤ t188
      ·
       rw [if_pos c45] at H
       have c45b0 : decide (0 ≤ t188) = true := decide_eq_true c45
       clear c45
       by_cases c46 : t188 < (t184.length : Int)
       ·
        rw [if_pos c46] at H
        have c46b0 : decide (t188 < (t184.length : Int)) = true := decide_eq_true c46
        clear c46
        obtain ⟨y209, hy209⟩ : ∃ y_ : List (S41), y_ = (t184.set (t188 : Int).toNat (⟨(rd_T41 t184 t188).f0, (rd_T41 t184 t188).f1, (rd_T41 t184 t188).f2, t207⟩ : S41)) := ⟨_, rfl⟩
        replace H : (some (y209, t208)) = some (r1, r2) := by first | (rw [hy209]; with_reducible exact H) | (rw [hy209]; exact (Option.bind_some _ _).symm.trans H) | (rw [hy209]; exact H) | exact H
        have Ny209 := mk0 hy209
        clear hy209
        simp only [Option.some.injEq, Prod.mk.injEq] at H
        obtain ⟨rfl, rfl⟩ := H
        have n_ := mk0 (Kd.S_N HO186.out)
        clear HO186
        have HO186 := n_
        clear n_
        go_wp2_with (first | ((with_reducible refine gate_dst (N := 59) rfl ?_); refine Kd.R_lit (Kd.int .i64) _ 3 ?hg (N := 59) ?hd (xs := ([0, 5] : List Int)) (inner := [.int .i64 0, .int .i64 5]) (ok := fun _ => True) (okp := fun _ => True) ?hr ?hp (fun _ hk => hk) trivial (Below.refl _ _) (Nat.le_refl _) (by simp) ?_; (case hd => rfl); (case hg => rfl); (case hr => first | (go_simp; done) | (go_simp; rfl)); (case hp => exact (Reps.one (show Kd.M (Kd.int .i64) _ _ _ 0 [.int .i64 0] from rfl) (Reps.one (show Kd.M (Kd.int .i64) _ _ _ 5 [.int .i64 5] from rfl) (Reps.none _ _)))); intro v205 w52 ho53 hb hg_ hnew_; clear hg_ hnew_; (first | rw [← Ny204.out] at ho53 | (simp only [Int.reduceToNat] at ho53; rw [← Ny204.out] at ho53)); replace HO186 := mk0 (Kd.N_elder' (by (with_reducible repeat (first | apply Na_ | apply Nn_ | apply Nd_)); exact HO186.out) (Kd.R_base ho53) hb); have HO206 := mk0 (Kd.R_lower (Kd.R_newM (M := fun k_ => (w.heap.size ≤ k_)) ho53 (keep_size (w := w) (g := g) (row := none) (by with_reducible repeat (first | exact HK.out | apply ks_ | apply kn_ | apply kd_ | apply ka_))) (fun k_ h_ => h_)) (keep_size (w := w) (g := g) (row := none) (by with_reducible repeat (first | exact HK.out | apply ks_ | apply kn_ | apply kd_ | apply ka_)))); replace HK := mk0 (KeepBut.trans (by with_reducible repeat (first | exact HK.out | apply ks_ | apply kn_ | apply kd_ | apply ka_)) (KeepBut.of_below hb g none) (.inl rfl)); replace HB := mk0 (below_step (by with_reducible repeat (first | exact HB.out | apply ba_ | apply bn_ | apply bd_ | refine below_set ?_ (IsS71.ge HI0.out))) hb); replace HI0 := mk0 (IsS71.below (by with_reducible repeat (first | exact HI0.out | apply ia_ | apply in_ | apply id_ | apply is_)) hb); clear hb ho53; obtain ⟨Ao54, co54, eo54⟩ := Kd.R_slice HO206.out; subst eo54) | ((with_reducible refine gate_callee (f := 58) rfl ?_); refine goesL_ (some 60) rfl rfl Tryz.func58 (by kernel_rfl) rfl #[.pointer (some ⟨g, 0, none⟩), .slice Ao54 y204.length co54] rfl (by (try simp only [List.map_toArray, List.map_cons, List.map_nil]); first | done | rfl | (simp only [List.length_drop, List.length_take]; rfl)) ?_; (with_reducible refine (spec_reader_one.calls k g s0_0 t191 _ _ y204 t207 t208 w0 _ ?side1 ?side2 ?side3 ?side4 ?side5 A44.out).mono ?_); (case side1 => with_reducible repeat (first | exact HI0.out | apply ia_ | apply in_ | apply id_ | apply is_)); (case side2 => with_reducible repeat (first | exact HB.out | apply ba_ | apply bn_ | apply bd_ | refine below_set ?_ (IsS71.ge HI0.out))); (case side3 => repeat (first | exact (Kd.R_reads' HO206.out).2.2 | (with_reducible first | refine Ca_ ?_ _ | refine Cn_ ?_ _ | refine Cd_ ?_))); (case side4 => exact (Kd.R_reads' HO206.out).2.1); (case side5 => exact far_slice (IsS71.own_ne HI0.out HO206.out (by decide))); rintro e w55 ⟨rfl, hi, hb, hk⟩; refine ⟨_, rfl, ?_⟩; replace HO186 := mk0 (Kd.N_mono (Kd.N_keep (Kd.N_mono (ok := fun k_ => ((((w.heap.size ≤ k_)) ∧ k_ ≠ g) ∧ some k_ ≠ (.slice Ao54 y204.length co54 : Value).ownBlock)) (by (with_reducible repeat (first | apply Na_ | apply Nn_ | apply Nd_)); exact HO186.out) (fun k_ hk_ => (⟨hk_, hk_.1.2⟩ : _ ∧ k_ ≠ g))) hk (fun _ h => h.2)) (fun _ h => h.1)); replace HO206 := mk0 (Kd.R_mono (Kd.R_keep (IsS71.apart (show IsS71 w0 _ g s0_0 t191 from by with_reducible repeat (first | exact HI0.out | apply ia_ | apply in_ | apply id_ | apply is_)) (by (with_reducible repeat (first | apply Ra_ | apply Rn_ | apply Rd_)); exact HO206.out) (by decide)) hk (fun _ h => h.2)) (fun _ h => h.1)); replace HK := mk0 (KeepBut.trans (by with_reducible repeat (first | exact HK.out | apply ks_ | apply kn_ | apply kd_ | apply ka_)) hk (.inl rfl)); replace HB := mk0 (hb); replace HI0 := mk0 (hi); clear hb hk hi; have p47 : 0 ≤ (t188 : Int) := od_ (by with_reducible assumption); have q47 : (t188 : Int) < ((t184.length : Int) : Int) := od_ (by with_reducible assumption); obtain ⟨go47, co47, eo47, gb47, gl47, cl47, HG47⟩ := Kd.N_form HO186.out (by omega); (first | cases eo47 | (injection eo47 with ea_ en_ ec_; (first | subst ea_ | (injection ea_ with ea_; subst ea_)); subst ec_; clear en_)); have GB47 := mk0 gb47; have GG47 := mk0 HG47; clear gb47 gl47 HG47; obtain ⟨ce47, hcl47, hM47, hcc47, hfr47⟩ := Kd.N_elem HO186.out z41 (t188 : Int) p47 q47; obtain ⟨ua47_1, uc47_1, rfl, ul47_1, ge47_1⟩ := k41_openF hM47; have hx47_0 : w55.cell? ⟨go47, (t188 : Int).toNat * 4, none⟩ = some (.int .i64 ((rd_T41 t184 t188).f0)) := hcc47 0 _ rfl; have hx47_1 : w55.cell? ⟨go47, (t188 : Int).toNat * 4 + 1, none⟩ = some (.slice ua47_1 ((rd_T41 t184 t188).f1).length uc47_1) := hcc47 1 _ rfl; have hx47_2 : w55.cell? ⟨go47, (t188 : Int).toNat * 4 + 2, none⟩ = some (.int .i64 ((rd_T41 t184 t188).f2)) := hcc47 2 _ rfl; have hx47_3 : w55.cell? ⟨go47, (t188 : Int).toNat * 4 + 3, none⟩ = some (.int .i64 ((rd_T41 t184 t188).f3)) := hcc47 3 _ rfl; have hf47_0 : w55.frozen? ⟨go47, (t188 : Int).toNat * 4, none⟩ = false := hfr47 0; have hf47_1 : w55.frozen? ⟨go47, (t188 : Int).toNat * 4 + 1, none⟩ = false := hfr47 1; have hf47_2 : w55.frozen? ⟨go47, (t188 : Int).toNat * 4 + 2, none⟩ = false := hfr47 2; have hf47_3 : w55.frozen? ⟨go47, (t188 : Int).toNat * 4 + 3, none⟩ = false := hfr47 3; clear hcl47 hcc47 hfr47 hM47; replace p47 := eq_true p47; replace q47 := eq_true q47; have n_ := mk0 (Kd.N_mono (ok' := (fun k_ => (w.heap.size ≤ k_) ∧ some k_ ≠ (.slice Ao54 y204.length co54 : Value).ownBlock)) HO186.out (fun k_ hk => ⟨hk.1.1, hk.2⟩)); clear HO186; have HO186 := n_; clear n_; have HX56 := mk0 (show Kd.N k41 63 w55 w.heap.size (fun k_ => (w.heap.size ≤ k_) ∧ some k_ ≠ (.slice Ao54 y204.length co54 : Value).ownBlock) (.slice (some ⟨go47, 0, none⟩) t184.length co9) t184 from (by (with_reducible repeat (first | apply Na_ | apply Nn_ | apply Nd_)); exact HO186.out)); obtain ⟨ce56, hcl56, hM56, hcc56, hfr56⟩ := Kd.N_elem HX56.out z41 (t188 : Int) (od_ (by with_reducible assumption)) (by have h_ : (t188 : Int) < ((t184.length : Int) : Int) := od_ (by with_reducible assumption); first | exact h_ | (have e_ := (Kd.N_reads' HO186.out).1; omega) | simpa using h_); obtain ⟨ua56_1, uc56_1, rfl, ul56_1, ge56_1⟩ := k41_openF hM56; have HP56 := Kd.N_seg HX56.out (t188 : Int) (od_ (by with_reducible assumption)) (by have h_ : (t188 : Int) < ((t184.length : Int) : Int) := od_ (by with_reducible assumption); first | exact h_ | (have e_ := (Kd.N_reads' HO186.out).1; omega) | simpa using h_) (seg := [.int .i64 t207]) (j := 3) hcl56 hcc56 (show 4 ≤ 4 from by decide) (x' := (⟨(rd_T41 t184 t188).f0, (rd_T41 t184 t188).f1, (rd_T41 t184 t188).f2, t207⟩ : S41)) (k41_mkF _ _ (⟨(rd_T41 t184 t188).f0, (rd_T41 t184 t188).f1, (rd_T41 t184 t188).f2, t207⟩ : S41) ul56_1 ge56_1) (fun _ hk => hk); have hx56_3 := hcc56 3 _ rfl; (try simp only [show (k41).sz = 4 from rfl, Nat.mul_one, Nat.add_zero] at hx56_3); have hf56_3 := hfr56 3; (try simp only [show (k41).sz = 4 from rfl, Nat.mul_one, Nat.add_zero] at hf56_3); clear hcl56 hcc56 hfr56 hM56) | ((with_reducible refine gate_store (t := 3) (p := 62) rfl ?_); refine store_event (t := 3) (p := 62) (v := ?vo_w57) (w1 := (w55.setCell ⟨go47, (t188 : Int).toNat * 4 + 3, none⟩ (.int .i64 t207))) ?hg ?ho ?hn ?hr ?_; (case ho => rfl); (case hg => rfl); (case hn => rfl); (case hr => first | (go_simp; done) | (go_simp; rfl)); intro w57 hw; have hg : w55.grownBy w57 (some go47) := (by rw [hw]; exact HP56.2); have hp_ : Kd.N k41 63 w57 w.heap.size (fun k_ => (w.heap.size ≤ k_) ∧ some k_ ≠ (.slice Ao54 y204.length co54 : Value).ownBlock) (.slice (some ⟨go47, 0, none⟩) t184.length co9) y209 := (by rw [hw, Ny209.out]; exact HP56.1); clear HP56; replace HI0 := mk0 (IsS71.grown (by with_reducible repeat (first | exact HI0.out | apply ia_ | apply in_ | apply id_ | apply is_)) hg (IsS71.own_neN HI0.out HO186.out (by decide))); replace HO206 := mk0 (Kd.R_over' (v := (.slice (some ⟨go47, 0, none⟩) t184.length co9)) (by (with_reducible repeat (first | apply Ra_ | apply Rn_ | apply Rd_)); exact HO206.out) (Kd.N_typed HO186.out) (by decide) hg); replace HB := mk0 ((by rw [hw]; exact below_set (HB.out) (Nat.le_trans HL.out GB47.out) : Below w0.heap.size w0 w57)); replace HK := mk0 (KeepBut.trans (by with_reducible repeat (first | exact HK.out | apply ks_ | apply kn_ | apply kd_ | apply ka_)) (KeepBut.of_grown hg g) (Kd.N_base2 HO186.out)); replace HO186 := mk0 (hp_); clear hg hw hp_))
        go_ret
        exact ⟨_, by first | rfl | (simp [errW_none, errW_some] <;> rfl) | (simp [*, errW_none, errW_some] <;> rfl), by (with_reducible repeat (first | apply Na_ | apply Nn_ | apply Nd_)); exact Kd.N_mono HO186.out (fun _ hk => hk.1), by with_reducible repeat (first | exact HI0.out | apply ia_ | apply in_ | apply id_ | apply is_), by with_reducible repeat (first | exact HB.out | apply ba_ | apply bn_ | apply bd_ | refine below_set ?_ (IsS71.ge HI0.out)), by with_reducible repeat (first | exact HK.out | apply ks_ | apply kn_ | apply kd_ | apply ka_)⟩
       ·
        rw [if_neg c46] at H
        exact nn_ H
      ·
       rw [if_neg c45] at H
       exact nn_ H
     ·
      rw [if_neg c43] at H
      have c43b0 : (t190 == 3) = false := beq_eq_false_iff_ne.mpr c43
      have c43b1 : (t190 != 3) = true := bne_iff_ne.mpr c43
      by_cases c58 : t190 = 4
      ·
       rw [if_pos c58] at H
       have c58b0 : (t190 == 4) = true := beq_iff_eq.mpr c58
       have c58b1 : (t190 != 4) = false := bne_eq_false_iff_eq.mpr c58
       clear c58
       replace H := bE_ H
       obtain ⟨⟨t210, t213⟩, A590, H⟩ := H
       have A59 := mk0 A590
       clear A590
       by_cases c60 : t184.length + t210.length < 2932031007402
       ·
        rw [if_pos c60] at H
        have LMc60 := mk0 c60
        clear c60
        obtain ⟨y214, hy214⟩ : ∃ y_ : List (S41), y_ = (t184 ++ t210) := ⟨_, rfl⟩
        replace H : (some (y214, t213)) = some (r1, r2) := by first | (rw [hy214]; with_reducible exact H) | (rw [hy214]; exact (Option.bind_some _ _).symm.trans H) | (rw [hy214]; exact H) | exact H
        have Ny214 := mk0 hy214
        clear hy214
        simp only [Option.some.injEq, Prod.mk.injEq] at H
        obtain ⟨rfl, rfl⟩ := H
        have n_ := mk0 (Kd.S_N HO186.out)
        clear HO186
        have HO186 := n_
        clear n_
        go_wp2_with (first | ((with_reducible refine gate_callee (f := 56) rfl ?_); refine goesL_ (some 67) rfl rfl Tryz.func56 (by kernel_rfl) rfl #[.pointer (some ⟨g, 0, none⟩), .int .i64 8] rfl (by (try simp only [List.map_toArray, List.map_cons, List.map_nil]); first | done | rfl | (simp only [List.length_drop, List.length_take]; rfl)) ?_; (with_reducible refine (spec_someGraph.calls k g s0_0 t191 8 t210 t213 w0 _ ?side1 ?side2 A59.out).mono ?_); (case side1 => with_reducible repeat (first | exact HI0.out | apply ia_ | apply in_ | apply id_ | apply is_)); (case side2 => with_reducible repeat (first | exact HB.out | apply ba_ | apply bn_ | apply bd_ | refine below_set ?_ (IsS71.ge HI0.out))); rintro e w65 ⟨v211, rfl, ho0, hi, hb, hk⟩; refine ⟨_, rfl, ?_⟩; have HO212 := mk0 (Kd.N_lower (Kd.N_mono (ok' := fun k_ => (w.heap.size ≤ k_) ∧ some k_ ≠ (.slice Ao9 t184.length co9 : Value).ownBlock ∧ k_ ≠ g) (Kd.S_N (Kd.S_bound ho0)) (fun k_ hk_ => ⟨(Nat.le_trans (keep_size (w := w) (g := g) (row := none) (by with_reducible repeat (first | exact HK.out | apply ks_ | apply kn_ | apply kd_ | apply ka_))) hk_.2.1), (Kd.fresh' (Kd.N_lt (by (with_reducible repeat (first | apply Na_ | apply Nn_ | apply Nd_)); exact HO186.out)) k_ hk_.2.1), (IsS71.fresh (by with_reducible repeat (first | exact HI0.out | apply ia_ | apply in_ | apply id_ | apply is_)) k_ hk_.2.1)⟩)) (keep_size (w := w) (g := g) (row := none) (by with_reducible repeat (first | exact HK.out | apply ks_ | apply kn_ | apply kd_ | apply ka_)))); replace HO186 := mk0 (Kd.N_mono (Kd.N_told (Kd.N_oldK (Kd.N_mono (ok := fun k_ => (((w.heap.size ≤ k_)) ∧ k_ ≠ g)) (by (with_reducible repeat (first | apply Na_ | apply Nn_ | apply Nd_)); exact HO186.out) (fun k_ hk_ => (⟨hk_, hk_.2⟩ : _ ∧ k_ ≠ g))) hk) (Kd.S_base ho0)) (fun _ h_ => h_.1)); replace HK := mk0 (KeepBut.trans (by with_reducible repeat (first | exact HK.out | apply ks_ | apply kn_ | apply kd_ | apply ka_)) hk (.inl rfl)); replace HB := mk0 (hb); replace HI0 := mk0 (hi); clear hb hk hi ho0; obtain ⟨Ao67, co67, eo67⟩ := Kd.N_slice HO212.out; subst eo67) | ((with_reducible refine gate_builtin (b := .append) (xs := #[.tmp 65, .tmp 67]) rfl ?_); at_builtin; refine Kd.N_append_rows k41 w.heap.size rfl (.tmp 65) (.tmp 67) 23 63 (.agg #[(.int .i64 0), (.slice none 0 0), (.int .i64 0), (.int .i64 0)]) 48 rfl Tryz.underlying23 info63 rfl (by decide) (by omega) (.slice Ao9 t184.length co9) t184 t210 _ _ _ (fun k_ => (w.heap.size ≤ k_) ∧ k_ ≠ g) (fun k_ => ((fun k_ => (w.heap.size ≤ k_) ∧ k_ ≠ g)) k_ ∧ some k_ ≠ (.slice Ao9 t184.length co9 : Value).ownBlock) rfl rfl ?aO ?aR (fun _ hk => hk) ?aF (Below.refl _ _) ?aS ?aL ?_; (case aR => exact (by skip; exact Kd.N_F (Kd.N_mono (ok' := (fun k_ => ((fun k_ => (w.heap.size ≤ k_) ∧ k_ ≠ g)) k_ ∧ some k_ ≠ (.slice Ao9 t184.length co9 : Value).ownBlock)) (HO212.out) (fun k_ hk => ⟨⟨hk.1, hk.2.2⟩, hk.2.1⟩)))); (case aF => exact (fun k_ hk => ⟨(Nat.le_trans (keep_size (w := w) (g := g) (row := none) (by with_reducible repeat (first | exact HK.out | apply ks_ | apply kn_ | apply kd_ | apply ka_))) hk), IsS71.fresh (by with_reducible repeat (first | exact HI0.out | apply ia_ | apply in_ | apply id_ | apply is_)) k_ hk⟩)); (case aO => exact (by (with_reducible repeat (first | apply Na_ | apply Nn_ | apply Nd_)); exact Kd.N_mono HO186.out (fun _ hk => ⟨hk.1.1, hk.1.2⟩))); (case aS => exact (keep_size (w := w) (g := g) (row := none) (by with_reducible repeat (first | exact HK.out | apply ks_ | apply kn_ | apply kd_ | apply ka_)))); (case aL => have := LMc60.out; omega); intro v215 w66 ho hb hg hat; rw [← Ny214.out] at ho; replace HO212 := mk0 (Kd.N_afterv (ok := (fun k_ => (w.heap.size ≤ k_) ∧ k_ ≠ g)) (by (with_reducible repeat (first | apply Na_ | apply Nn_ | apply Nd_)); exact Kd.N_mono HO212.out (fun _ hk => ⟨⟨hk.1, hk.2.2⟩, hk.2.1⟩)) hg hat); replace HB := mk0 (below_weaken (by with_reducible repeat (first | exact HB.out | apply ba_ | apply bn_ | apply bd_ | refine below_set ?_ (IsS71.ge HI0.out))) HL.out hb); replace HI0 := mk0 (IsS71.grown (by with_reducible repeat (first | exact HI0.out | apply ia_ | apply in_ | apply id_ | apply is_)) hg (IsS71.own_neN HI0.out HO186.out (by decide))); replace HK := mk0 (KeepBut.trans (by with_reducible repeat (first | exact HK.out | apply ks_ | apply kn_ | apply kd_ | apply ka_)) (KeepBut.of_grown hg g) (Kd.N_base2 HO186.out)); have HO216 := mk0 (ho); clear HO186; clear ho hb hg hat))
        go_ret
        exact ⟨_, by first | rfl | (simp [errW_none, errW_some] <;> rfl) | (simp [*, errW_none, errW_some] <;> rfl), by (with_reducible repeat (first | apply Na_ | apply Nn_ | apply Nd_)); exact Kd.N_mono HO216.out (fun _ hk => hk.1), by with_reducible repeat (first | exact HI0.out | apply ia_ | apply in_ | apply id_ | apply is_), by with_reducible repeat (first | exact HB.out | apply ba_ | apply bn_ | apply bd_ | refine below_set ?_ (IsS71.ge HI0.out)), by with_reducible repeat (first | exact HK.out | apply ks_ | apply kn_ | apply kd_ | apply ka_)⟩
       ·
        rw [if_neg c60] at H
        exact nn_ H
      ·
       rw [if_neg c58] at H
       have c58b0 : (t190 == 4) = false := beq_eq_false_iff_ne.mpr c58
       have c58b1 : (t190 != 4) = true := bne_iff_ne.mpr c58
       simp only [Option.some.injEq, Prod.mk.injEq] at H
       obtain ⟨rfl, rfl⟩ := H
       have n_ := mk0 (Kd.S_N HO186.out)
       clear HO186
       have HO186 := n_
       clear n_
       go_wp2
       go_ret
       exact ⟨_, by first | rfl | (simp [errW_none, errW_some] <;> rfl) | (simp [*, errW_none, errW_some] <;> rfl), by (with_reducible repeat (first | apply Na_ | apply Nn_ | apply Nd_)); exact Kd.N_mono HO186.out (fun _ hk => hk.1), by with_reducible repeat (first | exact HI0.out | apply ia_ | apply in_ | apply id_ | apply is_), by with_reducible repeat (first | exact HB.out | apply ba_ | apply bn_ | apply bd_ | refine below_set ?_ (IsS71.ge HI0.out)), by with_reducible repeat (first | exact HK.out | apply ks_ | apply kn_ | apply kd_ | apply ka_)⟩
end Go.Proofs.YtkljcdghbefceaaGreatDoor.PFnValidLog
