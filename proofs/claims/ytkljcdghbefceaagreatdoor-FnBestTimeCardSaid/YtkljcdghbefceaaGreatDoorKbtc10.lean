/- Parts of the proof, laid as one text by a program of mine. -/
import Derived.Test.YtkljcdghbefceaaGreatDoorKbtc9
namespace Go.Proofs.YtkljcdghbefceaaGreatDoor.PFnValidLog
open Go.RowKit Go.Proofs.YtkljcdghbefceaaGreatDoorW.PrintWords Go.Proofs.YtkljcdghbefceaaGreatDoorW.PrintLast Go.Proofs.YtkljcdghbefceaaGreatDoorW.PrintMore
attribute [local go_sem] max2_int min2_int max_two min_two max_three min_three max_four min_four
set_option linter.unusedVariables false
set_option linter.unusedSimpArgs false
/-! spec_copyInts -/
def spec_copyInts.f (l0 : List Int) : Option (List Int) := (some (([] : List Int) : List Int)).bind fun y159 => (if y159.length + l0.length < 17592186044416 then (some (y159 ++ l0)) else (none))
set_option maxHeartbeats 8000000 in
set_option maxRecDepth 100000 in
theorem spec_copyInts.calls (A0 : Option Addr) (c0 : Nat) (l0 : List Int) (r : List Int) (w : World) (hr0 : Kd.C (Kd.int .i64) w A0 l0.length l0) (hc0 : l0.length ≤ c0) (h : spec_copyInts.f l0 = some r) :
  Calls Tryz.prog 38 #[.slice A0 l0.length c0] w fun e w' => ∃ v0_ : Value, e = .returned (v0_) ∧ Kd.R (Kd.int .i64) 3 w' w.heap.size (fun _ => True) v0_ r ∧ Below w.heap.size w w' := by
 have HR0 := mk0 hr0
 have HC0 := mk0 hc0
 clear hr0 hc0
 have HB := mk0 (Below.refl w.heap.size w)
 have H : ((some (([] : List Int) : List Int)).bind fun y159 => (if y159.length + l0.length < 17592186044416 then (some (y159 ++ l0)) else (none))) = some r := h
 clear h
 obtain ⟨y159, hy159⟩ : ∃ y_ : List Int, y_ = (([] : List Int)) := ⟨_, rfl⟩
 replace H : (if y159.length + l0.length < 17592186044416 then (some (y159 ++ l0)) else (none)) = some r := by first | (rw [hy159]; with_reducible exact H) | (rw [hy159]; exact (Option.bind_some _ _).symm.trans H) | (rw [hy159]; exact H) | exact H
 have Ny159 := mk0 hy159
 clear hy159
 by_cases c2 : y159.length + l0.length < 17592186044416
 ·
  rw [if_pos c2] at H
  have LMc2 := mk0 c2
  clear c2
  obtain ⟨y162, hy162⟩ : ∃ y_ : List Int, y_ = (y159 ++ l0) := ⟨_, rfl⟩
  replace H : (some y162) = some r := by first | (rw [hy162]; with_reducible exact H) | (rw [hy162]; exact (Option.bind_some _ _).symm.trans H) | (rw [hy162]; exact H) | exact H
  have Ny162 := mk0 hy162
  clear hy162
  obtain rfl := Option.some.inj H
  go_enter Tryz.func38, Tryz.ntmps38
  go_wp2_with (first | ((with_reducible refine gate_dst (N := 3) rfl ?_); refine Kd.R_lit (Kd.int .i64) _ 3 ?hg (N := 3) ?hd (xs := ([] : List Int)) (inner := []) (ok := fun _ => True) (okp := fun _ => True) ?hr ?hp (fun _ hk => hk) trivial (Below.refl _ _) (Nat.le_refl _) (by simp) ?_; (case hd => rfl); (case hg => rfl); (case hr => first | (go_simp; done) | (go_simp; rfl)); (case hp => exact (Reps.none _ _)); intro v160 w3 ho4 hb hg_ hnew_; clear hg_ hnew_; (first | rw [← Ny159.out] at ho4 | (simp only [Int.reduceToNat] at ho4; rw [← Ny159.out] at ho4)); have HO161 := mk0 (Kd.R_lower ho4 (below_size (by with_reducible repeat (first | exact HB.out | apply ba_ | apply bn_ | apply bd_)))); replace HB := mk0 (below_step (by with_reducible repeat (first | exact HB.out | apply ba_ | apply bn_ | apply bd_)) hb); clear hb ho4) | ((with_reducible refine gate_builtin (b := .append) (xs := #[.tmp 3, .tmp 4]) rfl ?_); at_builtin; refine Kd.R_append_rows (Kd.int .i64) (w0 := w) w.heap.size rfl (.tmp 3) (.tmp 4) 24 3 (.int .i64 0) 8 rfl Tryz.underlying24 info3 rfl (by decide) (by omega) v160 y159 l0 _ _ _ (fun _ => True) (fun _ => False) rfl rfl ?aO ?aR (fun _ _ h => h) (fun _ h => h.elim) ?aF ?aB ?aS ?aL ?_; (case aR => repeat (first | exact (Kd.C_below HR0.out HB.out) | (with_reducible first | refine Ca_ ?_ _ | refine Cn_ ?_ _ | refine Cd_ ?_))); (case aB => exact (by with_reducible repeat (first | exact HB.out | apply ba_ | apply bn_ | apply bd_))); (case aF => exact (fun _ _ => trivial)); (case aO => exact (by (with_reducible repeat (first | apply Ra_ | apply Rn_ | apply Rd_)); exact HO161.out)); (case aS => exact (below_size (by with_reducible repeat (first | exact HB.out | apply ba_ | apply bn_ | apply bd_)))); (case aL => have := LMc2.out; omega); intro v163 w5 ho hb hg hat; rw [← Ny162.out] at ho; replace HB := mk0 (hb); have HO164 := mk0 (ho); clear HO161; clear ho hb hg hat))
  go_ret
  exact ⟨_, by first | rfl | (simp [errW_none, errW_some] <;> rfl) | (simp [*, errW_none, errW_some] <;> rfl), by (with_reducible repeat (first | apply Ra_ | apply Rn_ | apply Rd_)); exact HO164.out, by with_reducible repeat (first | exact HB.out | apply ba_ | apply bn_ | apply bd_)⟩
 ·
  rw [if_neg c2] at H
  exact nn_ H
/-! spec_reader_spoil -/
def spec_reader_spoil.f (k : Nat) (s0_0 : List Int) (s0_1 : Int) (l1 : List Int) (a2 : Int) : Option (List Int × Int) := (spec_copyInts.f l1).bind fun t165 => ((spec_reader_pick.f k s0_0 s0_1 20).bind fun bt168 => (if bt168.1 = 0 then (if t165.length < 17592186044416 then (some ((t165 ++ [a2]), bt168.2)) else (none)) else (if bt168.1 = 1 then (if (t165.length : Int) > 0 then (if 1 ≤ (t165.length : Int) then (some ((t165.drop (1 : Int).toNat), bt168.2)) else (none)) else (some (t165, bt168.2))) else (if bt168.1 = 2 then (if (t165.length : Int) > 0 then ((spec_reader_pick.f k s0_0 bt168.2 (t165.length : Int)).bind fun bt176 => ((spec_reader_one.f k s0_0 bt176.2 (([(-1), a2, 0, 1] : List Int))).bind fun bt181 => (if 0 ≤ bt176.1 then (if bt176.1 < (t165.length : Int) then (some ((t165.set (bt176.1 : Int).toNat bt181.1), bt181.2)) else (none)) else (none)))) else (some (t165, bt168.2))) else (some (t165, bt168.2))))))
set_option maxHeartbeats 8000000 in
set_option maxRecDepth 100000 in
theorem spec_reader_spoil.calls (k : Nat) (g : Nat) (s0_0 : List Int) (s0_1 : Int) (A1 : Option Addr) (c1 : Nat) (l1 : List Int) (a2 : Int) (r1 : List Int) (r2 : Int) (w0 w : World) (hI : IsS71 w0 w g s0_0 s0_1) (hB : Below w0.heap.size w0 w) (hr1 : Kd.C (Kd.int .i64) w A1 l1.length l1) (hc1 : l1.length ≤ c1) (hf1 : ∀ ad, A1 = some ad → 0 < l1.length → ad.block ≠ g) (h : spec_reader_spoil.f k s0_0 s0_1 l1 a2 = some (r1, r2)) :
  Calls Tryz.prog 57 #[.pointer (some ⟨g, 0, none⟩), .slice A1 l1.length c1, .int .i64 a2] w fun e w' => ∃ v0_ : Value, e = .returned (v0_) ∧ Kd.Q (Kd.int .i64) 3 w' w.heap.size (fun _ => True) v0_ r1 ∧ IsS71 w0 w' g s0_0 r2 ∧ Below w0.heap.size w0 w' ∧ KeepBut w w' g none := by
 have HR1 := mk0 hr1
 have HC1 := mk0 hc1
 clear hr1 hc1
 have HI0 := mk0 hI
 have HK := mk0 (KeepBut.refl w g none)
 have HL := mk0 hB.size
 clear hI
 have HW0 := mk0 hB.size
 have HB := mk0 hB
 clear hB
 have H : ((spec_copyInts.f l1).bind fun t165 => ((spec_reader_pick.f k s0_0 s0_1 20).bind fun bt168 => (if bt168.1 = 0 then (if t165.length < 17592186044416 then (some ((t165 ++ [a2]), bt168.2)) else (none)) else (if bt168.1 = 1 then (if (t165.length : Int) > 0 then (if 1 ≤ (t165.length : Int) then (some ((t165.drop (1 : Int).toNat), bt168.2)) else (none)) else (some (t165, bt168.2))) else (if bt168.1 = 2 then (if (t165.length : Int) > 0 then ((spec_reader_pick.f k s0_0 bt168.2 (t165.length : Int)).bind fun bt176 => ((spec_reader_one.f k s0_0 bt176.2 (([(-1), a2, 0, 1] : List Int))).bind fun bt181 => (if 0 ≤ bt176.1 then (if bt176.1 < (t165.length : Int) then (some ((t165.set (bt176.1 : Int).toNat bt181.1), bt181.2)) else (none)) else (none)))) else (some (t165, bt168.2))) else (some (t165, bt168.2))))))) = some (r1, r2) := h
 clear h
 replace H := bE_ H
 obtain ⟨t165, A40, H⟩ := H
 have A4 := mk0 A40
 clear A40
 replace H := bE_ H
 obtain ⟨⟨t168, t169⟩, A50, H⟩ := H
 have A5 := mk0 A50
 clear A50
 by_cases c6 : t168 = 0
 ·
  rw [if_pos c6] at H
  have c6b0 : (t168 == 0) = true := beq_iff_eq.mpr c6
  have c6b1 : (t168 != 0) = false := bne_eq_false_iff_eq.mpr c6
  clear c6
  by_cases c7 : t165.length < 17592186044416
  ·
   rw [if_pos c7] at H
   have LMc7 := mk0 c7
   clear c7
   obtain ⟨y170, hy170⟩ : ∃ y_ : List Int, y_ = (t165 ++ [a2]) := ⟨_, rfl⟩
   replace H : (some (y170, t169)) = some (r1, r2) := by first | (rw [hy170]; with_reducible exact H) | (rw [hy170]; exact (Option.bind_some _ _).symm.trans H) | (rw [hy170]; exact H) | exact H
   have Ny170 := mk0 hy170
   clear hy170
   simp only [Option.some.injEq, Prod.mk.injEq] at H
   obtain ⟨rfl, rfl⟩ := H
   go_enter Tryz.func57, Tryz.ntmps57
   go_wp2_with (first | ((with_reducible refine gate_callee (f := 38) rfl ?_); refine goesL_ (some 9) rfl rfl Tryz.func38 (by kernel_rfl) rfl #[.slice A1 l1.length c1] rfl (by (try simp only [List.map_toArray, List.map_cons, List.map_nil]); first | done | rfl | (simp only [List.length_drop, List.length_take]; rfl)) ?_; (with_reducible refine (spec_copyInts.calls _ _ l1 t165 _ ?side1 ?side2 A4.out).mono ?_); (case side1 => exact Kd.C_keep 0 HR1.out (by with_reducible repeat (first | exact HK.out | apply ks_ | apply kn_ | apply kd_ | apply ka_)) hf1); (case side2 => exact HC1.out); rintro e w8 ⟨v166, rfl, ho0, hb⟩; refine ⟨_, rfl, ?_⟩; have HO167 := mk0 (Kd.R_lower ho0 (keep_size (w := w) (g := g) (row := none) (by with_reducible repeat (first | exact HK.out | apply ks_ | apply kn_ | apply kd_ | apply ka_)))); replace HK := mk0 (KeepBut.trans (by with_reducible repeat (first | exact HK.out | apply ks_ | apply kn_ | apply kd_ | apply ka_)) (KeepBut.of_below hb g none) (.inl rfl)); replace HB := mk0 (below_step (by with_reducible repeat (first | exact HB.out | apply ba_ | apply bn_ | apply bd_ | refine below_set ?_ (IsS71.ge HI0.out))) hb); replace HI0 := mk0 (IsS71.below (by with_reducible repeat (first | exact HI0.out | apply ia_ | apply in_ | apply id_ | apply is_)) hb); clear hb ho0) | ((with_reducible refine gate_callee (f := 54) rfl ?_); refine goesL_ (some 11) rfl rfl Tryz.func54 (by kernel_rfl) rfl #[.pointer (some ⟨g, 0, none⟩), .int .i64 20] rfl (by (try simp only [List.map_toArray, List.map_cons, List.map_nil]); first | done | rfl | (simp only [List.length_drop, List.length_take]; rfl)) ?_; (with_reducible refine (spec_reader_pick.calls k g s0_0 s0_1 20 t168 t169 w0 _ ?side1 ?side2 A5.out).mono ?_); (case side1 => with_reducible repeat (first | exact HI0.out | apply ia_ | apply in_ | apply id_ | apply is_)); (case side2 => with_reducible repeat (first | exact HB.out | apply ba_ | apply bn_ | apply bd_ | refine below_set ?_ (IsS71.ge HI0.out))); rintro e w9 ⟨rfl, hi, hb, hk⟩; refine ⟨_, rfl, ?_⟩; replace HO167 := mk0 (Kd.R_mono (Kd.R_keep (IsS71.apart (show IsS71 w0 _ g s0_0 s0_1 from by with_reducible repeat (first | exact HI0.out | apply ia_ | apply in_ | apply id_ | apply is_)) (by (with_reducible repeat (first | apply Ra_ | apply Rn_ | apply Rd_)); exact HO167.out) (by decide)) hk (fun _ h => h.2)) (fun _ h => h.1)); replace HK := mk0 (KeepBut.trans (by with_reducible repeat (first | exact HK.out | apply ks_ | apply kn_ | apply kd_ | apply ka_)) hk (.inl rfl)); replace HB := mk0 (hb); replace HI0 := mk0 (hi); clear hb hk hi) | ((with_reducible refine gate_builtin (b := .append) (xs := #[.tmp 14, .tmp 16]) rfl ?_); at_builtin; refine Kd.R_append (Kd.int .i64) w.heap.size rfl (.tmp 14) (.tmp 16) 24 3 (.int .i64 0) 8 rfl Tryz.underlying24 info3 rfl (by decide) (by omega) v166 t165 a2 [.int .i64 a2] (fun _ => True) (fun _ => False) rfl rfl ?aP (fun _ hk => hk.elim) ?aF ?aO (Below.refl _ _) ?aS ?aL ?_; (case aP => exact rfl); (case aF => exact (fun _ _ => trivial)); (case aO => exact (by (with_reducible repeat (first | apply Ra_ | apply Rn_ | apply Rd_)); exact HO167.out)); (case aS => exact (keep_size (w := w) (g := g) (row := none) (by with_reducible repeat (first | exact HK.out | apply ks_ | apply kn_ | apply kd_ | apply ka_)))); (case aL => have := LMc7.out; omega); intro v171 w10 ho hb hg hat; rw [← Ny170.out] at ho; replace HB := mk0 (below_weaken (by with_reducible repeat (first | exact HB.out | apply ba_ | apply bn_ | apply bd_ | refine below_set ?_ (IsS71.ge HI0.out))) HL.out hb); replace HI0 := mk0 (IsS71.grown (by with_reducible repeat (first | exact HI0.out | apply ia_ | apply in_ | apply id_ | apply is_)) hg (IsS71.own_ne HI0.out HO167.out (by decide))); replace HK := mk0 (KeepBut.trans (by with_reducible repeat (first | exact HK.out | apply ks_ | apply kn_ | apply kd_ | apply ka_)) (KeepBut.of_grown hg g) (Kd.R_base2 HO167.out)); have HO172 := mk0 (ho); clear HO167; clear ho hb hg hat))
   go_ret
   exact ⟨_, by first | rfl | (simp [errW_none, errW_some] <;> rfl) | (simp [*, errW_none, errW_some] <;> rfl), Kd.Q_of_R (by (with_reducible repeat (first | apply Ra_ | apply Rn_ | apply Rd_)); exact HO172.out), by with_reducible repeat (first | exact HI0.out | apply ia_ | apply in_ | apply id_ | apply is_), by with_reducible repeat (first | exact HB.out | apply ba_ | apply bn_ | apply bd_ | refine below_set ?_ (IsS71.ge HI0.out)), by with_reducible repeat (first | exact HK.out | apply ks_ | apply kn_ | apply kd_ | apply ka_)⟩
  ·
   rw [if_neg c7] at H
   exact nn_ H
 ·
  rw [if_neg c6] at H
  have c6b0 : (t168 == 0) = false := beq_eq_false_iff_ne.mpr c6
  have c6b1 : (t168 != 0) = true := bne_iff_ne.mpr c6
  by_cases c11 : t168 = 1
  ·
   rw [if_pos c11] at H
   have c11b0 : (t168 == 1) = true := beq_iff_eq.mpr c11
   have c11b1 : (t168 != 1) = false := bne_eq_false_iff_eq.mpr c11
   clear c11
   by_cases c12 : (t165.length : Int) > 0
   ·
    rw [if_pos c12] at H
    have c12b0 : decide (0 < (t165.length : Int)) = true := decide_eq_true c12
    have c12b1 : decide (0 < t165.length) = true := decide_eq_true (by omega)
    clear c12
    by_cases c13 : 1 ≤ (t165.length : Int)
    ·
     rw [if_pos c13] at H
     have c13b0 := eq_true c13
     have c13b1 : decide (1 ≤ (t165.length : Int)) = true := decide_eq_true c13
     clear c13
     obtain ⟨y173, hy173⟩ : ∃ y_ : List Int, y_ = (t165.drop (1 : Int).toNat) := ⟨_, rfl⟩
     replace H : (some (y173, t169)) = some (r1, r2) := by first | (rw [hy173]; with_reducible exact H) | (rw [hy173]; exact (Option.bind_some _ _).symm.trans H) | (rw [hy173]; exact H) | exact H
     have Ny173 := mk0 hy173
     clear hy173
     simp only [Option.some.injEq, Prod.mk.injEq] at H
     obtain ⟨rfl, rfl⟩ := H
     go_enter Tryz.func57, Tryz.ntmps57
     go_wp2_with (first | ((with_reducible refine gate_callee (f := 38) rfl ?_); refine goesL_ (some 9) rfl rfl Tryz.func38 (by kernel_rfl) rfl #[.slice A1 l1.length c1] rfl (by (try simp only [List.map_toArray, List.map_cons, List.map_nil]); first | done | rfl | (simp only [List.length_drop, List.length_take]; rfl)) ?_; (with_reducible refine (spec_copyInts.calls _ _ l1 t165 _ ?side1 ?side2 A4.out).mono ?_); (case side1 => exact Kd.C_keep 0 HR1.out (by with_reducible repeat (first | exact HK.out | apply ks_ | apply kn_ | apply kd_ | apply ka_)) hf1); (case side2 => exact HC1.out); rintro e w14 ⟨v166, rfl, ho0, hb⟩; refine ⟨_, rfl, ?_⟩; have HO167 := mk0 (Kd.R_lower ho0 (keep_size (w := w) (g := g) (row := none) (by with_reducible repeat (first | exact HK.out | apply ks_ | apply kn_ | apply kd_ | apply ka_)))); replace HK := mk0 (KeepBut.trans (by with_reducible repeat (first | exact HK.out | apply ks_ | apply kn_ | apply kd_ | apply ka_)) (KeepBut.of_below hb g none) (.inl rfl)); replace HB := mk0 (below_step (by with_reducible repeat (first | exact HB.out | apply ba_ | apply bn_ | apply bd_ | refine below_set ?_ (IsS71.ge HI0.out))) hb); replace HI0 := mk0 (IsS71.below (by with_reducible repeat (first | exact HI0.out | apply ia_ | apply in_ | apply id_ | apply is_)) hb); clear hb ho0) | ((with_reducible refine gate_callee (f := 54) rfl ?_); refine goesL_ (some 11) rfl rfl Tryz.func54 (by kernel_rfl) rfl #[.pointer (some ⟨g, 0, none⟩), .int .i64 20] rfl (by (try simp only [List.map_toArray, List.map_cons, List.map_nil]); first | done | rfl | (simp only [List.length_drop, List.length_take]; rfl)) ?_; (with_reducible refine (spec_reader_pick.calls k g s0_0 s0_1 20 t168 t169 w0 _ ?side1 ?side2 A5.out).mono ?_); (case side1 => with_reducible repeat (first | exact HI0.out | apply ia_ | apply in_ | apply id_ | apply is_)); (case side2 => with_reducible repeat (first | exact HB.out | apply ba_ | apply bn_ | apply bd_ | refine below_set ?_ (IsS71.ge HI0.out))); rintro e w15 ⟨rfl, hi, hb, hk⟩; refine ⟨_, rfl, ?_⟩; replace HO167 := mk0 (Kd.R_mono (Kd.R_keep (IsS71.apart (show IsS71 w0 _ g s0_0 s0_1 from by with_reducible repeat (first | exact HI0.out | apply ia_ | apply in_ | apply id_ | apply is_)) (by (with_reducible repeat (first | apply Ra_ | apply Rn_ | apply Rd_)); exact HO167.out) (by decide)) hk (fun _ h => h.2)) (fun _ h => h.1)); replace HK := mk0 (KeepBut.trans (by with_reducible repeat (first | exact HK.out | apply ks_ | apply kn_ | apply kd_ | apply ka_)) hk (.inl rfl)); replace HB := mk0 (hb); replace HI0 := mk0 (hi); clear hb hk hi; obtain ⟨Ao16, co16, eo16⟩ := Kd.R_slice HO167.out; subst eo16; have q17 : (1 : Int) ≤ ((t165.length : Int) : Int) := od_ (by with_reducible assumption); obtain ⟨i017, hi017, _, hsz17, _⟩ := info_parts info3; have hcut17 := cut_from (P := Tryz.prog) 24 3 .i64 Tryz.underlying24 hi017 1 hsz17 Ao16 t165.length co16 1 (by omega) q17; have hr17 := Kd.Q_drop (k := (1 : Int).toNat) (Kd.Q_of_R HO167.out) (by omega); obtain ⟨A17, hA17⟩ : ∃ A1, A1 = (if co16 = (1 : Int).toNat then Ao16 else (Ao16 : Option Addr).map (·.add ((1 : Int).toNat * 1))) := ⟨_, rfl⟩; obtain ⟨c17, hc17⟩ : ∃ c1, c1 = co16 - (1 : Int).toNat := ⟨_, rfl⟩; have hy17 : y173.length = t165.length - (1 : Int).toNat := (by rw [Ny173.out, List.length_drop]); rw [← Ny173.out] at hr17; rw [← hy17, ← hA17, ← hc17] at hcut17; replace hr17 : Kd.Q (Kd.int .i64) 3 w15 w.heap.size (fun _ => True) (.slice A17 y173.length c17) y173 := (by rw [hA17, hc17, hy17]; exact hr17); have HE17 : Aside0 ((Value.slice A17 y173.length c17).ownBlock = (.slice Ao16 t165.length co16 : Value).ownBlock) := ⟨by rw [hA17]; split <;> (cases (Ao16 : Option Addr) <;> rfl)⟩; clear hy17 hi017 hsz17 HO167 hA17 hc17; have HO175 := mk0 hr17; clear hr17; replace q17 := eq_true q17))
     go_ret
     exact ⟨_, by first | rfl | (simp [errW_none, errW_some] <;> rfl) | (simp [*, errW_none, errW_some] <;> rfl), by (with_reducible repeat (first | apply Qa_ | apply Qn_ | apply Qd_)); exact HO175.out, by with_reducible repeat (first | exact HI0.out | apply ia_ | apply in_ | apply id_ | apply is_), by with_reducible repeat (first | exact HB.out | apply ba_ | apply bn_ | apply bd_ | refine below_set ?_ (IsS71.ge HI0.out)), by with_reducible repeat (first | exact HK.out | apply ks_ | apply kn_ | apply kd_ | apply ka_)⟩
    ·
     rw [if_neg c13] at H
     exact nn_ H
   ·
    rw [if_neg c12] at H
    have c12b0 : decide (0 < (t165.length : Int)) = false := decide_eq_false c12
    have c12b1 : decide (0 < t165.length) = false := decide_eq_false (by omega)
    clear c12
    simp only [Option.some.injEq, Prod.mk.injEq] at H
    obtain ⟨rfl, rfl⟩ := H
    go_enter Tryz.func57, Tryz.ntmps57
    go_wp2_with (first | ((with_reducible refine gate_callee (f := 38) rfl ?_); refine goesL_ (some 9) rfl rfl Tryz.func38 (by kernel_rfl) rfl #[.slice A1 l1.length c1] rfl (by (try simp only [List.map_toArray, List.map_cons, List.map_nil]); first | done | rfl | (simp only [List.length_drop, List.length_take]; rfl)) ?_; (with_reducible refine (spec_copyInts.calls _ _ l1 t165 _ ?side1 ?side2 A4.out).mono ?_); (case side1 => exact Kd.C_keep 0 HR1.out (by with_reducible repeat (first | exact HK.out | apply ks_ | apply kn_ | apply kd_ | apply ka_)) hf1); (case side2 => exact HC1.out); rintro e w18 ⟨v166, rfl, ho0, hb⟩; refine ⟨_, rfl, ?_⟩; have HO167 := mk0 (Kd.R_lower ho0 (keep_size (w := w) (g := g) (row := none) (by with_reducible repeat (first | exact HK.out | apply ks_ | apply kn_ | apply kd_ | apply ka_)))); replace HK := mk0 (KeepBut.trans (by with_reducible repeat (first | exact HK.out | apply ks_ | apply kn_ | apply kd_ | apply ka_)) (KeepBut.of_below hb g none) (.inl rfl)); replace HB := mk0 (below_step (by with_reducible repeat (first | exact HB.out | apply ba_ | apply bn_ | apply bd_ | refine below_set ?_ (IsS71.ge HI0.out))) hb); replace HI0 := mk0 (IsS71.below (by with_reducible repeat (first | exact HI0.out | apply ia_ | apply in_ | apply id_ | apply is_)) hb); clear hb ho0) | ((with_reducible refine gate_callee (f := 54) rfl ?_); refine goesL_ (some 11) rfl rfl Tryz.func54 (by kernel_rfl) rfl #[.pointer (some ⟨g, 0, none⟩), .int .i64 20] rfl (by (try simp only [List.map_toArray, List.map_cons, List.map_nil]); first | done | rfl | (simp only [List.length_drop, List.length_take]; rfl)) ?_; (with_reducible refine (spec_reader_pick.calls k g s0_0 s0_1 20 t168 t169 w0 _ ?side1 ?side2 A5.out).mono ?_); (case side1 => with_reducible repeat (first | exact HI0.out | apply ia_ | apply in_ | apply id_ | apply is_)); (case side2 => with_reducible repeat (first | exact HB.out | apply ba_ | apply bn_ | apply bd_ | refine below_set ?_ (IsS71.ge HI0.out))); rintro e w19 ⟨rfl, hi, hb, hk⟩; refine ⟨_, rfl, ?_⟩; replace HO167 := mk0 (Kd.R_mono (Kd.R_keep (IsS71.apart (show IsS71 w0 _ g s0_0 s0_1 from by with_reducible repeat (first | exact HI0.out | apply ia_ | apply in_ | apply id_ | apply is_)) (by (with_reducible repeat (first | apply Ra_ | apply Rn_ | apply Rd_)); exact HO167.out) (by decide)) hk (fun _ h => h.2)) (fun _ h => h.1)); replace HK := mk0 (KeepBut.trans (by with_reducible repeat (first | exact HK.out | apply ks_ | apply kn_ | apply kd_ | apply ka_)) hk (.inl rfl)); replace HB := mk0 (hb); replace HI0 := mk0 (hi); clear hb hk hi; obtain ⟨Ao20, co20, eo20⟩ := Kd.R_slice HO167.out; subst eo20))
    go_ret
    exact ⟨_, by first | rfl | (simp [errW_none, errW_some] <;> rfl) | (simp [*, errW_none, errW_some] <;> rfl), Kd.Q_of_R (by (with_reducible repeat (first | apply Ra_ | apply Rn_ | apply Rd_)); exact HO167.out), by with_reducible repeat (first | exact HI0.out | apply ia_ | apply in_ | apply id_ | apply is_), by with_reducible repeat (first | exact HB.out | apply ba_ | apply bn_ | apply bd_ | refine below_set ?_ (IsS71.ge HI0.out)), by with_reducible repeat (first | exact HK.out | apply ks_ | apply kn_ | apply kd_ | apply ka_)⟩
  ·
   rw [if_neg c11] at H
   have c11b0 : (t168 == 1) = false := beq_eq_false_iff_ne.mpr c11
   have c11b1 : (t168 != 1) = true := bne_iff_ne.mpr c11
   by_cases c21 : t168 = 2
   ·
    rw [if_pos c21] at H
    have c21b0 : (t168 == 2) = true := beq_iff_eq.mpr c21
    have c21b1 : (t168 != 2) = false := bne_eq_false_iff_eq.mpr c21
    clear c21
    by_cases c22 : (t165.length : Int) > 0
    ·
     rw [if_pos c22] at H
     have c22b0 : decide (0 < (t165.length : Int)) = true := decide_eq_true c22
     have c22b1 : decide (0 < t165.length) = true := decide_eq_true (by omega)
     clear c22
     replace H := bE_ H
     obtain ⟨⟨t176, t177⟩, A230, H⟩ := H
     have A23 := mk0 A230
     clear A230
     obtain ⟨y178, hy178⟩ : ∃ y_ : List Int, y_ = (([(-1), a2, 0, 1] : List Int)) := ⟨_, rfl⟩
     replace H : ((spec_reader_one.f k s0_0 t177 y178).bind fun bt181 => (if 0 ≤ t176 then (if t176 < (t165.length : Int) then (some ((t165.set (t176 : Int).toNat bt181.1), bt181.2)) else (none)) else (none))) = some (r1, r2) := by first | (rw [hy178]; with_reducible exact H) | (rw [hy178]; exact (Option.bind_some _ _).symm.trans H) | (rw [hy178]; exact H) | exact H
     have Ny178 := mk0 hy178
     clear hy178
     replace H := bE_ H
     obtain ⟨⟨t181, t182⟩, A240, H⟩ := H
     have A24 := mk0 A240
     clear A240
     by_cases c25 : 0 ≤ t176
     ·
      rw [if_pos c25] at H
      have c25b0 : decide (0 ≤ t176) = true := decide_eq_true c25
      clear c25
      by_cases c26 : t176 < (t165.length : Int)
      ·
       rw [if_pos c26] at H
       have c26b0 : decide (t176 < (t165.length : Int)) = true := decide_eq_true c26
       clear c26
       obtain ⟨y183, hy183⟩ : ∃ y_ : List Int, y_ = (t165.set (t176 : Int).toNat t181) := ⟨_, rfl⟩
       replace H : (some (y183, t182)) = some (r1, r2) := by first | (rw [hy183]; with_reducible exact H) | (rw [hy183]; exact (Option.bind_some _ _).symm.trans H) | (rw [hy183]; exact H) | exact H
       have Ny183 := mk0 hy183
       clear hy183
       simp only [Option.some.injEq, Prod.mk.injEq] at H
       obtain ⟨rfl, rfl⟩ := H
       go_enter Tryz.func57, Tryz.ntmps57
       go_wp2_with (first | ((with_reducible refine gate_callee (f := 38) rfl ?_); refine goesL_ (some 9) rfl rfl Tryz.func38 (by kernel_rfl) rfl #[.slice A1 l1.length c1] rfl (by (try simp only [List.map_toArray, List.map_cons, List.map_nil]); first | done | rfl | (simp only [List.length_drop, List.length_take]; rfl)) ?_; (with_reducible refine (spec_copyInts.calls _ _ l1 t165 _ ?side1 ?side2 A4.out).mono ?_); (case side1 => exact Kd.C_keep 0 HR1.out (by with_reducible repeat (first | exact HK.out | apply ks_ | apply kn_ | apply kd_ | apply ka_)) hf1); (case side2 => exact HC1.out); rintro e w28 ⟨v166, rfl, ho0, hb⟩; refine ⟨_, rfl, ?_⟩; have HO167 := mk0 (Kd.R_lower ho0 (keep_size (w := w) (g := g) (row := none) (by with_reducible repeat (first | exact HK.out | apply ks_ | apply kn_ | apply kd_ | apply ka_)))); replace HK := mk0 (KeepBut.trans (by with_reducible repeat (first | exact HK.out | apply ks_ | apply kn_ | apply kd_ | apply ka_)) (KeepBut.of_below hb g none) (.inl rfl)); replace HB := mk0 (below_step (by with_reducible repeat (first | exact HB.out | apply ba_ | apply bn_ | apply bd_ | refine below_set ?_ (IsS71.ge HI0.out))) hb); replace HI0 := mk0 (IsS71.below (by with_reducible repeat (first | exact HI0.out | apply ia_ | apply in_ | apply id_ | apply is_)) hb); clear hb ho0) | ((with_reducible refine gate_callee (f := 54) rfl ?_); refine goesL_ (some 11) rfl rfl Tryz.func54 (by kernel_rfl) rfl #[.pointer (some ⟨g, 0, none⟩), .int .i64 20] rfl (by (try simp only [List.map_toArray, List.map_cons, List.map_nil]); first | done | rfl | (simp only [List.length_drop, List.length_take]; rfl)) ?_; (with_reducible refine (spec_reader_pick.calls k g s0_0 s0_1 20 t168 t169 w0 _ ?side1 ?side2 A5.out).mono ?_); (case side1 => with_reducible repeat (first | exact HI0.out | apply ia_ | apply in_ | apply id_ | apply is_)); (case side2 => with_reducible repeat (first | exact HB.out | apply ba_ | apply bn_ | apply bd_ | refine below_set ?_ (IsS71.ge HI0.out))); rintro e w29 ⟨rfl, hi, hb, hk⟩; refine ⟨_, rfl, ?_⟩; replace HO167 := mk0 (Kd.R_mono (Kd.R_keep (IsS71.apart (show IsS71 w0 _ g s0_0 s0_1 from by with_reducible repeat (first | exact HI0.out | apply ia_ | apply in_ | apply id_ | apply is_)) (by (with_reducible repeat (first | apply Ra_ | apply Rn_ | apply Rd_)); exact HO167.out) (by decide)) hk (fun _ h => h.2)) (fun _ h => h.1)); replace HK := mk0 (KeepBut.trans (by with_reducible repeat (first | exact HK.out | apply ks_ | apply kn_ | apply kd_ | apply ka_)) hk (.inl rfl)); replace HB := mk0 (hb); replace HI0 := mk0 (hi); clear hb hk hi; obtain ⟨Ao30, co30, eo30⟩ := Kd.R_slice HO167.out; subst eo30) | ((with_reducible refine gate_callee (f := 54) rfl ?_); refine goesL_ (some 34) rfl rfl Tryz.func54 (by kernel_rfl) rfl #[.pointer (some ⟨g, 0, none⟩), .int .i64 (t165.length : Int)] rfl (by (try simp only [List.map_toArray, List.map_cons, List.map_nil]); first | done | rfl | (simp only [List.length_drop, List.length_take]; rfl)) ?_; (with_reducible refine (spec_reader_pick.calls k g s0_0 t169 (t165.length : Int) t176 t177 w0 _ ?side1 ?side2 A23.out).mono ?_); (case side1 => with_reducible repeat (first | exact HI0.out | apply ia_ | apply in_ | apply id_ | apply is_)); (case side2 => with_reducible repeat (first | exact HB.out | apply ba_ | apply bn_ | apply bd_ | refine below_set ?_ (IsS71.ge HI0.out))); rintro e w31 ⟨rfl, hi, hb, hk⟩; refine ⟨_, rfl, ?_⟩; replace HO167 := mk0 (Kd.R_mono (Kd.R_keep (IsS71.apart (show IsS71 w0 _ g s0_0 t169 from by with_reducible repeat (first | exact HI0.out | apply ia_ | apply in_ | apply id_ | apply is_)) (by (with_reducible repeat (first | apply Ra_ | apply Rn_ | apply Rd_)); exact HO167.out) (by decide)) hk (fun _ h => h.2)) (fun _ h => h.1)); replace HK := mk0 (KeepBut.trans (by with_reducible repeat (first | exact HK.out | apply ks_ | apply kn_ | apply kd_ | apply ka_)) hk (.inl rfl)); replace HB := mk0 (hb); replace HI0 := mk0 (hi); clear hb hk hi) | ((with_reducible refine gate_dst (N := 37) rfl ?_); refine Kd.R_lit (Kd.int .i64) _ 3 ?hg (N := 37) ?hd (xs := ([(-1), a2, 0, 1] : List Int)) (inner := [.int .i64 (-1), .int .i64 a2, .int .i64 0, .int .i64 1]) (ok := fun _ => True) (okp := fun _ => True) ?hr ?hp (fun _ hk => hk) trivial (Below.refl _ _) (Nat.le_refl _) (by simp) ?_; (case hd => rfl); (case hg => rfl); (case hr => first | (go_simp; done) | (go_simp; rfl)); (case hp => exact (Reps.one (show Kd.M (Kd.int .i64) _ _ _ (-1) [.int .i64 (-1)] from rfl) (Reps.one (show Kd.M (Kd.int .i64) _ _ _ a2 [.int .i64 a2] from rfl) (Reps.one (show Kd.M (Kd.int .i64) _ _ _ 0 [.int .i64 0] from rfl) (Reps.one (show Kd.M (Kd.int .i64) _ _ _ 1 [.int .i64 1] from rfl) (Reps.none _ _)))))); intro v179 w32 ho33 hb hg_ hnew_; clear hg_ hnew_; (first | rw [← Ny178.out] at ho33 | (simp only [Int.reduceToNat] at ho33; rw [← Ny178.out] at ho33)); have HO180 := mk0 (Kd.R_lower (Kd.R_new' ho33 (Kd.R_lt (by (with_reducible repeat (first | apply Ra_ | apply Rn_ | apply Rd_)); exact HO167.out))) (keep_size (w := w) (g := g) (row := none) (by with_reducible repeat (first | exact HK.out | apply ks_ | apply kn_ | apply kd_ | apply ka_)))); replace HO167 := mk0 (Kd.R_elder' (by (with_reducible repeat (first | apply Ra_ | apply Rn_ | apply Rd_)); exact HO167.out) (Kd.R_base ho33) hb); replace HK := mk0 (KeepBut.trans (by with_reducible repeat (first | exact HK.out | apply ks_ | apply kn_ | apply kd_ | apply ka_)) (KeepBut.of_below hb g none) (.inl rfl)); replace HB := mk0 (below_step (by with_reducible repeat (first | exact HB.out | apply ba_ | apply bn_ | apply bd_ | refine below_set ?_ (IsS71.ge HI0.out))) hb); replace HI0 := mk0 (IsS71.below (by with_reducible repeat (first | exact HI0.out | apply ia_ | apply in_ | apply id_ | apply is_)) hb); clear hb ho33; obtain ⟨Ao34, co34, eo34⟩ := Kd.R_slice HO180.out; subst eo34) | ((with_reducible refine gate_callee (f := 58) rfl ?_); refine goesL_ (some 38) rfl rfl Tryz.func58 (by kernel_rfl) rfl #[.pointer (some ⟨g, 0, none⟩), .slice Ao34 y178.length co34] rfl (by (try simp only [List.map_toArray, List.map_cons, List.map_nil]); first | done | rfl | (simp only [List.length_drop, List.length_take]; rfl)) ?_; (with_reducible refine (spec_reader_one.calls k g s0_0 t177 _ _ y178 t181 t182 w0 _ ?side1 ?side2 ?side3 ?side4 ?side5 A24.out).mono ?_); (case side1 => with_reducible repeat (first | exact HI0.out | apply ia_ | apply in_ | apply id_ | apply is_)); (case side2 => with_reducible repeat (first | exact HB.out | apply ba_ | apply bn_ | apply bd_ | refine below_set ?_ (IsS71.ge HI0.out))); (case side3 => repeat (first | exact (Kd.R_reads' HO180.out).2.2 | (with_reducible first | refine Ca_ ?_ _ | refine Cn_ ?_ _ | refine Cd_ ?_))); (case side4 => exact (Kd.R_reads' HO180.out).2.1); (case side5 => exact far_slice (IsS71.own_ne HI0.out HO180.out (by decide))); rintro e w35 ⟨rfl, hi, hb, hk⟩; refine ⟨_, rfl, ?_⟩; replace HO167 := mk0 (Kd.R_mono (Kd.R_keep (IsS71.apart (show IsS71 w0 _ g s0_0 t177 from by with_reducible repeat (first | exact HI0.out | apply ia_ | apply in_ | apply id_ | apply is_)) (by (with_reducible repeat (first | apply Ra_ | apply Rn_ | apply Rd_)); exact HO167.out) (by decide)) hk (fun _ h => h.2)) (fun _ h => h.1)); replace HO180 := mk0 (Kd.R_mono (Kd.R_keep (IsS71.apart (show IsS71 w0 _ g s0_0 t177 from by with_reducible repeat (first | exact HI0.out | apply ia_ | apply in_ | apply id_ | apply is_)) (by (with_reducible repeat (first | apply Ra_ | apply Rn_ | apply Rd_)); exact HO180.out) (by decide)) hk (fun _ h => h.2)) (fun _ h => h.1)); replace HK := mk0 (KeepBut.trans (by with_reducible repeat (first | exact HK.out | apply ks_ | apply kn_ | apply kd_ | apply ka_)) hk (.inl rfl)); replace HB := mk0 (hb); replace HI0 := mk0 (hi); clear hb hk hi; have p27 : 0 ≤ (t176 : Int) := od_ (by with_reducible assumption); have q27 : (t176 : Int) < ((t165.length : Int) : Int) := od_ (by with_reducible assumption); obtain ⟨go27, co27, eo27, gb27, gl27, cl27, HG27⟩ := Kd.R_form HO167.out (by omega); (first | cases eo27 | (injection eo27 with ea_ en_ ec_; (first | subst ea_ | (injection ea_ with ea_; subst ea_)); subst ec_; clear en_)); have GB27 := mk0 gb27; have GG27 := mk0 HG27; clear gb27 gl27 HG27; obtain ⟨hx27_0, hf27_0⟩ := Kd.R_celln 0 HO167.out (t176 : Int) p27 q27; replace p27 := eq_true p27; replace q27 := eq_true q27; have n_ := mk0 (Kd.R_mono (ok' := (fun k_ => some k_ ≠ (.slice Ao34 y178.length co34 : Value).ownBlock)) HO167.out (fun k_ hk => hk.2)); clear HO167; have HO167 := n_; clear n_; obtain ⟨hy36_, hz36_⟩ := Kd.R_celln 0 HO167.out (t176 : Int) (od_ (by with_reducible assumption)) (od_ (by with_reducible assumption)); have HP36 := Kd.R_putg HO167.out (t176 : Int) t181) | ((with_reducible refine gate_store (t := 3) (p := 39) rfl ?_); refine store_event (t := 3) (p := 39) (v := ?vo_w37) (w1 := (w35.setCell ⟨go27, (t176 : Int).toNat, none⟩ (.int .i64 t181))) ?hg ?ho ?hn ?hr ?_; (case ho => rfl); (case hg => rfl); (case hn => rfl); (case hr => first | (go_simp; done) | (go_simp; rfl)); intro w37 hw; have hg : w35.grownBy w37 (some go27) := (by rw [hw]; exact HP36.2); have hp_ : Kd.R (Kd.int .i64) 3 w37 w.heap.size (fun k_ => some k_ ≠ (.slice Ao34 y178.length co34 : Value).ownBlock) (.slice (some ⟨go27, 0, none⟩) t165.length co30) y183 := (by rw [hw, Ny183.out]; exact HP36.1); clear HP36; replace HI0 := mk0 (IsS71.grown (by with_reducible repeat (first | exact HI0.out | apply ia_ | apply in_ | apply id_ | apply is_)) hg (IsS71.own_ne HI0.out HO167.out (by decide))); replace HO180 := mk0 (Kd.R_after (v := (.slice (some ⟨go27, 0, none⟩) t165.length co30)) (v1 := (.slice (some ⟨go27, 0, none⟩) t165.length co30)) (ok := (fun _ => True)) (by (with_reducible repeat (first | apply Ra_ | apply Rn_ | apply Rd_)); exact HO180.out) hg (.inl rfl)); replace HB := mk0 ((by rw [hw]; exact below_set (HB.out) (Nat.le_trans HL.out GB27.out) : Below w0.heap.size w0 w37)); replace HK := mk0 (KeepBut.trans (by with_reducible repeat (first | exact HK.out | apply ks_ | apply kn_ | apply kd_ | apply ka_)) (KeepBut.of_grown hg g) (Kd.R_base2 HO167.out)); replace HO167 := mk0 (hp_); clear hg hw hp_))
       go_ret
       exact ⟨_, by first | rfl | (simp [errW_none, errW_some] <;> rfl) | (simp [*, errW_none, errW_some] <;> rfl), Kd.Q_of_R (by (with_reducible repeat (first | apply Ra_ | apply Rn_ | apply Rd_)); exact Kd.R_mono HO167.out (fun _ hk => trivial)), by with_reducible repeat (first | exact HI0.out | apply ia_ | apply in_ | apply id_ | apply is_), by with_reducible repeat (first | exact HB.out | apply ba_ | apply bn_ | apply bd_ | refine below_set ?_ (IsS71.ge HI0.out)), by with_reducible repeat (first | exact HK.out | apply ks_ | apply kn_ | apply kd_ | apply ka_)⟩
      ·
       rw [if_neg c26] at H
       exact nn_ H
     ·
      rw [if_neg c25] at H
      exact nn_ H
    ·
     rw [if_neg c22] at H
     have c22b0 : decide (0 < (t165.length : Int)) = false := decide_eq_false c22
     have c22b1 : decide (0 < t165.length) = false := decide_eq_false (by omega)
     clear c22
     simp only [Option.some.injEq, Prod.mk.injEq] at H
     obtain ⟨rfl, rfl⟩ := H
     go_enter Tryz.func57, Tryz.ntmps57
     go_wp2_with (first | ((with_reducible refine gate_callee (f := 38) rfl ?_); refine goesL_ (some 9) rfl rfl Tryz.func38 (by kernel_rfl) rfl #[.slice A1 l1.length c1] rfl (by (try simp only [List.map_toArray, List.map_cons, List.map_nil]); first | done | rfl | (simp only [List.length_drop, List.length_take]; rfl)) ?_; (with_reducible refine (spec_copyInts.calls _ _ l1 t165 _ ?side1 ?side2 A4.out).mono ?_); (case side1 => exact Kd.C_keep 0 HR1.out (by with_reducible repeat (first | exact HK.out | apply ks_ | apply kn_ | apply kd_ | apply ka_)) hf1); (case side2 => exact HC1.out); rintro e w38 ⟨v166, rfl, ho0, hb⟩; refine ⟨_, rfl, ?_⟩; have HO167 := mk0 (Kd.R_lower ho0 (keep_size (w := w) (g := g) (row := none) (by with_reducible repeat (first | exact HK.out | apply ks_ | apply kn_ | apply kd_ | apply ka_)))); replace HK := mk0 (KeepBut.trans (by with_reducible repeat (first | exact HK.out | apply ks_ | apply kn_ | apply kd_ | apply ka_)) (KeepBut.of_below hb g none) (.inl rfl)); replace HB := mk0 (below_step (by with_reducible repeat (first | exact HB.out | apply ba_ | apply bn_ | apply bd_ | refine below_set ?_ (IsS71.ge HI0.out))) hb); replace HI0 := mk0 (IsS71.below (by with_reducible repeat (first | exact HI0.out | apply ia_ | apply in_ | apply id_ | apply is_)) hb); clear hb ho0) | ((with_reducible refine gate_callee (f := 54) rfl ?_); refine goesL_ (some 11) rfl rfl Tryz.func54 (by kernel_rfl) rfl #[.pointer (some ⟨g, 0, none⟩), .int .i64 20] rfl (by (try simp only [List.map_toArray, List.map_cons, List.map_nil]); first | done | rfl | (simp only [List.length_drop, List.length_take]; rfl)) ?_; (with_reducible refine (spec_reader_pick.calls k g s0_0 s0_1 20 t168 t169 w0 _ ?side1 ?side2 A5.out).mono ?_); (case side1 => with_reducible repeat (first | exact HI0.out | apply ia_ | apply in_ | apply id_ | apply is_)); (case side2 => with_reducible repeat (first | exact HB.out | apply ba_ | apply bn_ | apply bd_ | refine below_set ?_ (IsS71.ge HI0.out))); rintro e w39 ⟨rfl, hi, hb, hk⟩; refine ⟨_, rfl, ?_⟩; replace HO167 := mk0 (Kd.R_mono (Kd.R_keep (IsS71.apart (show IsS71 w0 _ g s0_0 s0_1 from by with_reducible repeat (first | exact HI0.out | apply ia_ | apply in_ | apply id_ | apply is_)) (by (with_reducible repeat (first | apply Ra_ | apply Rn_ | apply Rd_)); exact HO167.out) (by decide)) hk (fun _ h => h.2)) (fun _ h => h.1)); replace HK := mk0 (KeepBut.trans (by with_reducible repeat (first | exact HK.out | apply ks_ | apply kn_ | apply kd_ | apply ka_)) hk (.inl rfl)); replace HB := mk0 (hb); replace HI0 := mk0 (hi); clear hb hk hi; obtain ⟨Ao40, co40, eo40⟩ := Kd.R_slice HO167.out; subst eo40))
     go_ret
     exact ⟨_, by first | rfl | (simp [errW_none, errW_some] <;> rfl) | (simp [*, errW_none, errW_some] <;> rfl), Kd.Q_of_R (by (with_reducible repeat (first | apply Ra_ | apply Rn_ | apply Rd_)); exact HO167.out), by with_reducible repeat (first | exact HI0.out | apply ia_ | apply in_ | apply id_ | apply is_), by with_reducible repeat (first | exact HB.out | apply ba_ | apply bn_ | apply bd_ | refine below_set ?_ (IsS71.ge HI0.out)), by with_reducible repeat (first | exact HK.out | apply ks_ | apply kn_ | apply kd_ | apply ka_)⟩
   ·
    rw [if_neg c21] at H
    have c21b0 : (t168 == 2) = false := beq_eq_false_iff_ne.mpr c21
    have c21b1 : (t168 != 2) = true := bne_iff_ne.mpr c21
    simp only [Option.some.injEq, Prod.mk.injEq] at H
    obtain ⟨rfl, rfl⟩ := H
    go_enter Tryz.func57, Tryz.ntmps57
    go_wp2_with (first | ((with_reducible refine gate_callee (f := 38) rfl ?_); refine goesL_ (some 9) rfl rfl Tryz.func38 (by kernel_rfl) rfl #[.slice A1 l1.length c1] rfl (by (try simp only [List.map_toArray, List.map_cons, List.map_nil]); first | done | rfl | (simp only [List.length_drop, List.length_take]; rfl)) ?_; (with_reducible refine (spec_copyInts.calls _ _ l1 t165 _ ?side1 ?side2 A4.out).mono ?_); (case side1 => exact Kd.C_keep 0 HR1.out (by with_reducible repeat (first | exact HK.out | apply ks_ | apply kn_ | apply kd_ | apply ka_)) hf1); (case side2 => exact HC1.out); rintro e w41 ⟨v166, rfl, ho0, hb⟩; refine ⟨_, rfl, ?_⟩; have HO167 := mk0 (Kd.R_lower ho0 (keep_size (w := w) (g := g) (row := none) (by with_reducible repeat (first | exact HK.out | apply ks_ | apply kn_ | apply kd_ | apply ka_)))); replace HK := mk0 (KeepBut.trans (by with_reducible repeat (first | exact HK.out | apply ks_ | apply kn_ | apply kd_ | apply ka_)) (KeepBut.of_below hb g none) (.inl rfl)); replace HB := mk0 (below_step (by with_reducible repeat (first | exact HB.out | apply ba_ | apply bn_ | apply bd_ | refine below_set ?_ (IsS71.ge HI0.out))) hb); replace HI0 := mk0 (IsS71.below (by with_reducible repeat (first | exact HI0.out | apply ia_ | apply in_ | apply id_ | apply is_)) hb); clear hb ho0) | ((with_reducible refine gate_callee (f := 54) rfl ?_); refine goesL_ (some 11) rfl rfl Tryz.func54 (by kernel_rfl) rfl #[.pointer (some ⟨g, 0, none⟩), .int .i64 20] rfl (by (try simp only [List.map_toArray, List.map_cons, List.map_nil]); first | done | rfl | (simp only [List.length_drop, List.length_take]; rfl)) ?_; (with_reducible refine (spec_reader_pick.calls k g s0_0 s0_1 20 t168 t169 w0 _ ?side1 ?side2 A5.out).mono ?_); (case side1 => with_reducible repeat (first | exact HI0.out | apply ia_ | apply in_ | apply id_ | apply is_)); (case side2 => with_reducible repeat (first | exact HB.out | apply ba_ | apply bn_ | apply bd_ | refine below_set ?_ (IsS71.ge HI0.out))); rintro e w42 ⟨rfl, hi, hb, hk⟩; refine ⟨_, rfl, ?_⟩; replace HO167 := mk0 (Kd.R_mono (Kd.R_keep (IsS71.apart (show IsS71 w0 _ g s0_0 s0_1 from by with_reducible repeat (first | exact HI0.out | apply ia_ | apply in_ | apply id_ | apply is_)) (by (with_reducible repeat (first | apply Ra_ | apply Rn_ | apply Rd_)); exact HO167.out) (by decide)) hk (fun _ h => h.2)) (fun _ h => h.1)); replace HK := mk0 (KeepBut.trans (by with_reducible repeat (first | exact HK.out | apply ks_ | apply kn_ | apply kd_ | apply ka_)) hk (.inl rfl)); replace HB := mk0 (hb); replace HI0 := mk0 (hi); clear hb hk hi))
    go_ret
    exact ⟨_, by first | rfl | (simp [errW_none, errW_some] <;> rfl) | (simp [*, errW_none, errW_some] <;> rfl), Kd.Q_of_R (by (with_reducible repeat (first | apply Ra_ | apply Rn_ | apply Rd_)); exact HO167.out), by with_reducible repeat (first | exact HI0.out | apply ia_ | apply in_ | apply id_ | apply is_), by with_reducible repeat (first | exact HB.out | apply ba_ | apply bn_ | apply bd_ | refine below_set ?_ (IsS71.ge HI0.out)), by with_reducible repeat (first | exact HK.out | apply ks_ | apply kn_ | apply kd_ | apply ka_)⟩
-- NOT PRINTED: function 55 (spec_anyGraph)
-- NOT PRINTED: function 28 (spec_smallGraph)
end Go.Proofs.YtkljcdghbefceaaGreatDoor.PFnValidLog

namespace Go.Proofs.YtkljcdghbefceaaGreatDoor.PFnValidLog
set_option linter.unusedVariables false
set_option linter.unusedSimpArgs false
open Go Go.RowKit
open Go.Proofs.YtkljcdghbefceaaGreatDoorW.PrintWords Go.Proofs.YtkljcdghbefceaaGreatDoorW.PrintLast Go.Proofs.YtkljcdghbefceaaGreatDoorW.PrintMore
def Gets {α : Type} (g : Nat → Option α) (P : α → Prop) : Prop := ∃ k0 r, P r ∧ ∀ k, k0 ≤ k → g k = some r
section
variable {α β : Type} {P Q : α → Prop} {f g : Nat → Option α}
theorem Gets.ret {r : α} (h : P r) : Gets (fun _ => some r) P := ⟨0, r, h, fun _ _ => rfl⟩
theorem Gets.bind {h : Nat → α → Option β} {R : β → Prop} (hg : Gets g P) (hh : ∀ x, P x → Gets (fun k => h k x) R) : Gets (fun k => (g k).bind (h k)) R := by
 obtain ⟨k0, r, hr, h0⟩ := hg
 obtain ⟨k1, s, hs, h1⟩ := hh r hr
 refine ⟨k0 + k1, s, hs, fun k hk => ?_⟩
 show (g k).bind (h k) = some s
 rw [h0 k (by omega), Option.bind_some]
 exact h1 k (by omega)
theorem Gets.step (e : ∀ k, f (k + 1) = g k) (h : Gets g P) : Gets f P := by
 obtain ⟨k0, r, hr, h0⟩ := h
 refine ⟨k0 + 1, r, hr, fun k hk => ?_⟩
 obtain ⟨m, rfl⟩ : ∃ m, k = m + 1 := ⟨k - 1, by omega⟩
 rw [e, h0 m (by omega)]
theorem Gets.pos {c : Prop} [Decidable c] (hc : c) (h : Gets f P) : Gets (fun k => if c then f k else g k) P := by
 obtain ⟨k0, r, hr, h0⟩ := h
 exact ⟨k0, r, hr, fun k hk => (if_pos hc).trans (h0 k hk)⟩
theorem Gets.neg {c : Prop} [Decidable c] (hc : ¬ c) (h : Gets g P) : Gets (fun k => if c then f k else g k) P := by
 obtain ⟨k0, r, hr, h0⟩ := h
 exact ⟨k0, r, hr, fun k hk => (if_neg hc).trans (h0 k hk)⟩
theorem Gets.ite {c : Prop} [Decidable c] (ha : c → Gets f P) (hb : ¬ c → Gets g P) : Gets (fun k => if c then f k else g k) P := by
 by_cases hc : c
 ·
  exact Gets.pos hc (ha hc)
 ·
  exact Gets.neg hc (hb hc)
theorem Gets.mono (h : Gets g P) (hp : ∀ r, P r → Q r) : Gets g Q := by
 obtain ⟨k0, r, hr, h0⟩ := h
 exact ⟨k0, r, hp r hr, h0⟩
theorem Gets.congr (h : Gets g P) (e : ∀ k, f k = g k) : Gets f P := by
 obtain ⟨k0, r, hr, h0⟩ := h
 exact ⟨k0, r, hr, fun k hk => (e k).trans (h0 k hk)⟩
theorem Gets.at (h : Gets g P) : ∃ k r, P r ∧ g k = some r := by
 obtain ⟨k0, r, hr, h0⟩ := h
 exact ⟨k0, r, hr, h0 k0 (Nat.le_refl _)⟩
end
theorem w64 {x : Int} (h : -9223372036854775808 ≤ x) (h' : x < 9223372036854775808) : wrap64 x = x := by unfold wrap64; omega
theorem xor_nonneg {a b : Int} (ha : 0 ≤ a) (ha' : a < 4611686018427387904) (hb : 0 ≤ b) (hb' : b < 4611686018427387904) : 0 ≤ Go.bits .xor .i64 a b ∧ Go.bits .xor .i64 a b < 4611686018427387904 := by
 obtain ⟨a, rfl⟩ := Int.eq_ofNat_of_zero_le ha
 obtain ⟨b, rfl⟩ := Int.eq_ofNat_of_zero_le hb
 have ha2 : a < 2 ^ 62 := by
  have : (2 : Nat) ^ 62 = 4611686018427387904 := by decide
  omega
 have hb2 : b < 2 ^ 62 := by
  have : (2 : Nat) ^ 62 = 4611686018427387904 := by decide
  omega
 have hx : a ^^^ b < 2 ^ 62 := Nat.xor_lt_two_pow ha2 hb2
 have h64 : (2 : Nat) ^ 62 = 4611686018427387904 := by decide
 have e1 : a % 2 ^ 64 = a := Nat.mod_eq_of_lt (Nat.lt_of_lt_of_le ha2 (by decide))
 have e2 : b % 2 ^ 64 = b := Nat.mod_eq_of_lt (Nat.lt_of_lt_of_le hb2 (by decide))
 have e : Go.bits .xor .i64 (a : Int) (b : Int) = ((a ^^^ b : Nat) : Int) := by
  have hb : IntKind.i64.bits = 64 := rfl
  simp only [Go.bits, hb, BitVec.ofInt_natCast, BitVec.toNat_xor, BitVec.toNat_ofNat, e1, e2]
  rw [IntKind.wrap_i64]
  omega
 rw [e]
 omega
theorem rd_byte {b : List Int} (hb : ∀ x ∈ b, 0 ≤ x ∧ x < 256) (i : Int) : 0 ≤ rd b i ∧ rd b i < 256 := by
 unfold rd
 rw [List.getD_eq_getElem?_getD]
 cases h : b[i.toNat]? with
 | none => exact ⟨Int.le_refl _, by decide⟩
 | some x => exact hb x (List.mem_of_getElem? h)
def Picked (n p : Int) (r : Int × Int) : Prop := 0 ≤ r.1 ∧ (0 < n → r.1 < n) ∧ (n ≤ 0 → r.1 = 0) ∧ r.2 = p + 1
theorem pick_gets {b : List Int} (hb : ∀ x ∈ b, 0 ≤ x ∧ x < 256) (hl : b.length ≤ 2000) {p n : Int} (h0 : 0 ≤ p) (h1 : p ≤ 1000000) : Gets (fun k => spec_reader_pick.f k b p n) (Picked n p) := by
 have e1 : wrap64 (p + 1) = p + 1 := w64 (by omega) (by omega)
 have e2 : wrap64 (p + 1 - 1) = p := by rw [w64 (by omega) (by omega)]; omega
 unfold spec_reader_pick.f
 rw [e1]
 refine Gets.ite (fun hn => ?_) (fun hn => ?_)
 ·
  refine Gets.step (fun k => by rw [spec_reader_pick.j0]) ?_
  refine Gets.pos rfl (Gets.ret ⟨Int.le_refl _, fun h => by omega, fun _ => rfl, rfl⟩)
 ·
  by_cases hz : b.length = 0
  ·
   refine Gets.step (fun k => by rw [spec_reader_pick.j0]) ?_
   refine Gets.pos (by simp [hz]) (Gets.ret ⟨Int.le_refl _, fun h => by omega, fun _ => rfl, rfl⟩)
  ·
   refine Gets.step (fun k => by rw [spec_reader_pick.j0]) ?_
   refine Gets.neg (by simp [hz]) ?_
   rw [e2]
   refine Gets.ite (fun hp => ?_) (fun hp => ?_)
   ·
    refine Gets.pos h0 (Gets.neg (by omega) (Gets.ret ?_))
    have hr := rd_byte hb p
    rw [w64 (by omega) (by omega)]
    exact ⟨Int.tmod_nonneg _ hr.1, fun h => Int.tmod_lt_of_pos _ h, fun h => by omega, rfl⟩
   ·
    have hL : (0 : Int) < (b.length : Int) := by omega
    have m1 := Int.tmod_nonneg (b.length : Int) h0
    have m2 := Int.tmod_lt_of_pos p hL
    have e3 : wrap64 (p * 7) = p * 7 := w64 (by omega) (by omega)
    have e4 : wrap64 (p * 7 + 3) = p * 7 + 3 := w64 (by omega) (by omega)
    rw [e3, e4]
    have m3 := Int.tmod_nonneg (b.length : Int) (show 0 ≤ p * 7 + 3 by omega)
    have m4 := Int.tmod_lt_of_pos (p * 7 + 3) hL
    refine Gets.neg (by omega) (Gets.pos m1 (Gets.pos m2 (Gets.pos m3 (Gets.pos m4 (Gets.neg (by omega) (Gets.ret ?_))))))
    have q1 := rd_byte hb (Int.tmod p b.length)
    have q2 := rd_byte hb (Int.tmod (p * 7 + 3) b.length)
    have q3 : 0 ≤ Int.tdiv p b.length := Int.tdiv_nonneg h0 (by omega)
    have q4 : Int.tdiv p b.length ≤ p := by
     rw [Int.tdiv_eq_ediv_of_nonneg h0]
     exact Int.ediv_le_self _ h0
    generalize rd b (Int.tmod p b.length) = u at q1 ⊢
    generalize rd b (Int.tmod (p * 7 + 3) b.length) = v at q2 ⊢
    generalize Int.tdiv p b.length = d at q3 q4 ⊢
    rw [w64 (x := u) (by omega) (by omega), w64 (x := v) (by omega) (by omega), w64 (x := d) (by omega) (by omega), w64 (x := u * 131) (by omega) (by omega), w64 (x := v * 1117) (by omega) (by omega), w64 (x := p * 29) (by omega) (by omega), w64 (x := d * 53) (by omega) (by omega), w64 (x := u * 131 + v * 1117) (by omega) (by omega), w64 (x := u * 131 + v * 1117 + p * 29) (by omega) (by omega), w64 (x := u * 131 + v * 1117 + p * 29 + d * 53) (by omega) (by omega)]
    have x0 : 0 ≤ u * 131 + v * 1117 + p * 29 + d * 53 ∧ u * 131 + v * 1117 + p * 29 + d * 53 < 1000000000 := by omega
    generalize u * 131 + v * 1117 + p * 29 + d * 53 = x at x0 ⊢
    have y1 : 0 ≤ Int.tdiv x 64 := Int.tdiv_nonneg x0.1 (by omega)
    have y2 : Int.tdiv x 64 ≤ x := by
     rw [Int.tdiv_eq_ediv_of_nonneg x0.1]
     exact Int.ediv_le_self _ x0.1
    rw [w64 (x := Int.tdiv x 64) (by omega) (by omega)]
    have z := xor_nonneg x0.1 (by omega) y1 (by omega)
    exact ⟨Int.tmod_nonneg _ z.1, fun h => Int.tmod_lt_of_pos _ h, fun h => by omega, rfl⟩
theorem one_gets {b : List Int} (hb : ∀ x ∈ b, 0 ≤ x ∧ x < 256) (hl : b.length ≤ 2000) {p : Int} {l : List Int} (h0 : 0 ≤ p) (h1 : p ≤ 1000000) (hp : 0 < l.length) : Gets (fun k => spec_reader_one.f k b p l) (fun r => r.1 ∈ l ∧ r.2 = p + 1) := by
 unfold spec_reader_one.f
 refine Gets.bind (pick_gets hb hl h0 h1) fun x hx => ?_
 obtain ⟨x1, x2, x3, x4⟩ := hx
 have := x2 (by omega)
 refine Gets.pos x1 (Gets.pos this (Gets.ret ⟨?_, x4⟩))
 unfold rd
 rw [List.getD_eq_getElem?_getD, List.getElem?_eq_getElem (by omega : x.1.toNat < l.length)]
 exact List.getElem_mem _
end Go.Proofs.YtkljcdghbefceaaGreatDoor.PFnValidLog

namespace Go.Proofs.YtkljcdghbefceaaGreatDoor.PFnValidLog
set_option linter.unusedVariables false
set_option linter.unusedSimpArgs false
open Go Go.RowKit
open Go.Proofs.YtkljcdghbefceaaGreatDoorW.PrintWords Go.Proofs.YtkljcdghbefceaaGreatDoorW.PrintLast Go.Proofs.YtkljcdghbefceaaGreatDoorW.PrintMore
def GOk (m n : Nat) (g : List S41) : Prop := g.length ≤ m ∧ ∀ t ∈ g, t.f1.length ≤ n
theorem rdT_mem {g : List S41} {i : Int} (h0 : 0 ≤ i) (h1 : i < g.length) : rd_T41 g i ∈ g := by
 unfold rd_T41
 rw [List.getD_eq_getElem?_getD, List.getElem?_eq_getElem (by omega : i.toNat < g.length)]
 exact List.getElem_mem _
theorem GOk_snoc {m n : Nat} {g : List S41} {t : S41} (h : GOk m n g) (ht : t.f1.length ≤ n) : GOk (m + 1) n (g ++ [t]) := by
 refine ⟨by have := h.1; simp; omega, fun x hx => ?_⟩
 rcases List.mem_append.1 hx with hx | hx
 ·
  exact h.2 x hx
 ·
  rw [List.mem_singleton.1 hx]; exact ht
section
variable {P : List S41 → Prop}
theorem turned_l1 (x0 x3 : List S41) (x4 x5 a0 a2 a3 : Int) (a1 : List Int) (h3 : x3.length < 1000) (ha : a1.length ≤ 1000)
  (hk : ∀ ns : List Int, ns.length ≤ a1.length → Gets (fun k => spec_turned.l0 k x0 (x3 ++ [(⟨a0, ns, a2, a3⟩ : S41)]) x4 (wrap64 (x5 - 1))) P) :
  ∀ (n : Nat) (x7 : List Int) (x8 : Int), x8 + 1 = n → x7.length + n ≤ a1.length → Gets (fun k => spec_turned.l1 k x0 x3 x4 x5 x7 x8 a0 a1 a2 a3) P
 | 0, x7, x8, h8, h7 => by
  refine Gets.step (fun k => by rw [spec_turned.l1]) ?_
  exact Gets.neg (by omega) (Gets.pos (by omega) (hk x7 (by omega)))
 | n + 1, x7, x8, h8, h7 => by
  refine Gets.step (fun k => by rw [spec_turned.l1]) ?_
  refine Gets.pos (by omega) (Gets.pos (by omega) (Gets.pos (by omega) (Gets.pos (by omega) ?_)))
  rw [w64 (x := x8 - 1) (by omega) (by omega)]
  exact turned_l1 x0 x3 x4 x5 a0 a2 a3 a1 h3 ha hk n _ (x8 - 1) (by omega) (by simp; omega)
end
theorem turned_l0 {N : Nat} (x0 : List S41) (h0 : GOk 1000 N x0) (hN : N ≤ 1000) (x4 : Int) : ∀ (n : Nat) (x3 : List S41) (x5 : Int), x5 + 1 = n → n ≤ x0.length → GOk (x0.length - n) N x3 →
  Gets (fun k => spec_turned.l0 k x0 x3 x4 x5) (fun r => GOk x0.length N r)
 | 0, x3, x5, h5, hn, h3 => by
  refine Gets.step (fun k => by rw [spec_turned.l0]) ?_
  exact Gets.neg (by omega) (Gets.ret h3)
 | n + 1, x3, x5, h5, hn, h3 => by
  have hx := h0.1
  have h31 := h3.1
  have hm := h0.2 _ (rdT_mem (show 0 ≤ x5 by omega) (show x5 < x0.length by omega))
  refine Gets.step (fun k => by rw [spec_turned.l0]) ?_
  refine Gets.pos (by omega) (Gets.pos (by omega) (Gets.pos (by omega) ?_))
  refine turned_l1 x0 x3 x4 x5 _ _ _ _ (by omega) (by omega) (fun ns hns => ?_) (rd_T41 x0 x5).f1.length [] _ ?_ (by simp)
  ·
   rw [w64 (x := x5 - 1) (by omega) (by omega)]
   refine turned_l0 x0 h0 hN x4 n _ (x5 - 1) (by omega) (by omega) ?_
   have := GOk_snoc (t := ⟨(rd_T41 x0 x5).f0, ns, (rd_T41 x0 x5).f2, (rd_T41 x0 x5).f3⟩) h3 (Nat.le_trans hns hm)
   rw [show x0.length - n = x0.length - (n + 1) + 1 by omega]
   exact this
  ·
   rw [w64 (by omega) (by omega)]
   omega
theorem turned_gets {N : Nat} (g : List S41) (h0 : GOk 1000 N g) (hN : N ≤ 1000) : Gets (fun k => spec_turned.f k g) (fun r => GOk g.length N r) := by
 have hx := h0.1
 unfold spec_turned.f
 rw [w64 (by omega) (by omega)]
 exact turned_l0 g h0 hN _ g.length [] _ (by omega) (Nat.le_refl _) ⟨by simp, fun t ht => by cases ht⟩
section
variable {b : List Int} (hb : ∀ x ∈ b, 0 ≤ x ∧ x < 256) (hl : b.length ≤ 2000)
include hb hl
theorem someGraph_l1 {P : List S41 × Int → Prop} (x5 : List S41) (h5 : x5.length ≤ 7) (x6 a0 a2 a3 : Int) (p0 : Int) (hp0 : 0 ≤ p0) (hp1 : p0 ≤ 900000)
  (hk : ∀ (ns : List Int) (p : Int), ns.length ≤ 8 → p0 ≤ p → p ≤ p0 + 8 → Gets (fun k => spec_someGraph.l0 k (x5 ++ [(⟨a0, ns, a2, a3⟩ : S41)]) (wrap64 (x6 - 1)) b p) P) :
  ∀ (n : Nat) (x8 : Int) (p : Int) (ns : List Int), 0 ≤ x8 → x8 + n = x5.length → p0 ≤ p → p ≤ p0 + x8 → ns.length ≤ x8.toNat → Gets (fun k => spec_someGraph.l1 k x5 x6 x8 b p a0 ns a2 a3) P
 | 0, x8, p, ns, h0, h8, h1, h2, h3 => by
  refine Gets.step (fun k => by rw [spec_someGraph.l1]) ?_
  exact Gets.neg (by omega) (Gets.pos (by omega) (hk ns p (by omega) h1 (by omega)))
 | n + 1, x8, p, ns, h0, h8, h1, h2, h3 => by
  refine Gets.step (fun k => by rw [spec_someGraph.l1]) ?_
  refine Gets.pos (by omega) ?_
  refine Gets.bind (pick_gets hb hl (by omega) (by omega)) fun r hr => ?_
  obtain ⟨r1, r2, r3, r4⟩ := hr
  rw [r4, w64 (x := x8 + 1) (by omega) (by omega)]
  refine Gets.ite (fun _ => Gets.pos (by omega) ?_) (fun _ => ?_)
  ·
   exact someGraph_l1 x5 h5 x6 a0 a2 a3 p0 hp0 hp1 hk n (x8 + 1) (p + 1) _ (by omega) (by omega) (by omega) (by omega) (by simp; omega)
  ·
   exact someGraph_l1 x5 h5 x6 a0 a2 a3 p0 hp0 hp1 hk n (x8 + 1) (p + 1) _ (by omega) (by omega) (by omega) (by omega) (by omega)
def Drawn8 (B : Int) (r : List S41 × Int) : Prop := GOk 8 8 r.1 ∧ 0 ≤ r.2 ∧ r.2 ≤ B
omit hb hl in
theorem mem6 {x : Int} {l : List Int} (h : x ∈ l) {lo hi : Int} (hall : ∀ y ∈ l, lo ≤ y ∧ y ≤ hi) : lo ≤ x ∧ x ≤ hi := hall x h
theorem someGraph_l0 (B : Int) (hB : B ≤ 900000) : ∀ (n : Nat) (x5 : List S41) (p : Int), x5.length + n ≤ 8 → GOk 8 8 x5 → 0 ≤ p → p + 12 * n + 2 ≤ B →
  Gets (fun k => spec_someGraph.l0 k x5 n b p) (Drawn8 B)
 | 0, x5, p, h5, hg, h0, h1 => by
  refine Gets.step (fun k => by rw [spec_someGraph.l0]) ?_
  refine Gets.neg (by omega) (Gets.ite (fun _ => ?_) (fun _ => Gets.ret ⟨hg, h0, by omega⟩))
  refine Gets.bind (pick_gets hb hl h0 (by omega)) fun r hr => ?_
  obtain ⟨r1, r2, r3, r4⟩ := hr
  refine Gets.ite (fun _ => ?_) (fun _ => Gets.ret ⟨hg, by omega, by omega⟩)
  refine Gets.bind (turned_gets x5 ⟨by omega, hg.2⟩ (by omega)) fun t ht => Gets.ret ⟨⟨Nat.le_trans ht.1 (by omega), ht.2⟩, by omega, by omega⟩
 | n + 1, x5, p, h5, hg, h0, h1 => by
  refine Gets.step (fun k => by rw [spec_someGraph.l0]) ?_
  refine Gets.pos (by omega) ?_
  refine Gets.bind (one_gets hb hl h0 (by omega) (by simp)) fun r hr => ?_
  obtain ⟨r1, r4⟩ := hr
  rw [r4]
  refine Gets.bind (pick_gets hb hl (by omega) (by omega)) fun s hs => ?_
  obtain ⟨s1, s2, s3, s4⟩ := hs
  rw [s4]
  refine Gets.bind (pick_gets hb hl (by omega) (by omega)) fun u hu => ?_
  obtain ⟨u1, u2, u3, u4⟩ := hu
  rw [u4]
  refine someGraph_l1 hb hl x5 (by omega) _ _ _ _ (p + 1 + 1 + 1) (by omega) (by omega) (fun ns q hns hq1 hq2 => ?_) x5.length 0 _ [] (by omega) (by omega) (by omega) (by omega) (by simp)
  rw [w64 (x := ((n + 1 : Nat) : Int) - 1) (by omega) (by omega), show ((n + 1 : Nat) : Int) - 1 = n by omega]
  have hs := GOk_snoc (t := ⟨r.1, ns, s.1, wrap64 (1 + u.1)⟩) hg (show ns.length ≤ 8 from hns)
  exact someGraph_l0 B hB n _ q (by simp; omega) ⟨by simp; omega, hs.2⟩ (by omega) (by omega)
theorem someGraph_gets (p : Int) (h0 : 0 ≤ p) (h1 : p ≤ 800000) (m : Int) (hm : m ≤ 8) : Gets (fun k => spec_someGraph.f k b p m) (Drawn8 (p + 120)) := by
 unfold spec_someGraph.f
 refine Gets.bind (one_gets hb hl h0 (by omega) (by simp)) fun r hr => ?_
 obtain ⟨r1, r4⟩ := hr
 rw [r4]
 have hr2 : r.1 ≤ 8 := (mem6 (lo := 0) (hi := 8) r1 (by decide)).2
 have hmn : mn m r.1 ≤ 8 := by unfold mn; split <;> omega
 generalize mn m r.1 = c at hmn
 by_cases hc : 0 ≤ c
 ·
  obtain ⟨c, rfl⟩ := Int.eq_ofNat_of_zero_le hc
  exact someGraph_l0 hb hl (p + 120) (by omega) c [] (p + 1) (by simp; omega) ⟨by simp, fun t ht => by cases ht⟩ (by omega) (by omega)
 ·
  refine Gets.step (fun k => by rw [spec_someGraph.l0]) ?_
  exact Gets.neg (by omega) (Gets.neg (by simp) (Gets.ret ⟨⟨by simp, fun t ht => by cases ht⟩, by omega, by omega⟩))
omit hb hl in
theorem copyInts_some (l : List Int) (h : l.length ≤ 1000000) : spec_copyInts.f l = some l := by
 unfold spec_copyInts.f
 rw [Option.bind_some, if_pos (by simp; omega)]
 rfl
theorem spoil_gets (p : Int) (h0 : 0 ≤ p) (h1 : p ≤ 900000) (l : List Int) (hll : l.length ≤ 1000) (m : Int) : Gets (fun k => spec_reader_spoil.f k b p l m) (fun r => r.1.length ≤ l.length + 1 ∧ 0 ≤ r.2 ∧ r.2 ≤ p + 3) := by
 unfold spec_reader_spoil.f
 rw [copyInts_some l (by omega)]
 simp only [Option.bind_some]
 refine Gets.bind (pick_gets hb hl h0 (by omega)) fun r hr => ?_
 obtain ⟨r1, r2, r3, r4⟩ := hr
 rw [r4]
 refine Gets.ite (fun _ => Gets.pos (by omega) (Gets.ret ⟨by simp, by omega, by omega⟩)) (fun _ => ?_)
 refine Gets.ite (fun _ => ?_) (fun _ => ?_)
 ·
  refine Gets.ite (fun h => Gets.pos (by omega) (Gets.ret ⟨by simp; omega, by omega, by omega⟩)) (fun _ => Gets.ret ⟨by simp, by omega, by omega⟩)
 ·
  refine Gets.ite (fun _ => ?_) (fun _ => Gets.ret ⟨by simp, by omega, by omega⟩)
  refine Gets.ite (fun hpos => ?_) (fun _ => Gets.ret ⟨by simp, by omega, by omega⟩)
  refine Gets.bind (pick_gets hb hl (by omega) (by omega)) fun s hs => ?_
  obtain ⟨s1, s2, s3, s4⟩ := hs
  rw [s4]
  have := s2 (by omega)
  refine Gets.bind (one_gets hb hl (by omega) (by omega) (by simp)) fun u hu => ?_
  obtain ⟨u1, u4⟩ := hu
  exact Gets.pos s1 (Gets.pos this (Gets.ret ⟨by simp, by omega, by omega⟩))
end
end Go.Proofs.YtkljcdghbefceaaGreatDoor.PFnValidLog
