/- Parts of the proof, laid as one text by a program of mine. -/
import Derived.Test.YtdjdfbfcjajlkaaDoorKcc9
import Derived.Test.YtdjdfbfcjajlkaaDoorKcc8
namespace Go.Proofs.YtdjdfbfcjajlkaaDoor.PFnValidLog
open Go.RowKit Go.Proofs.YtdjdfbfcjajlkaaDoorW.PrintWords Go.Proofs.YtdjdfbfcjajlkaaDoorW.PrintLast Go.Proofs.YtdjdfbfcjajlkaaDoorW.PrintMore
attribute [local go_sem] max2_int min2_int max_two min_two max_three min_three max_four min_four
set_option linter.unusedVariables false
set_option linter.unusedSimpArgs false
/-! spec_copyInts -/
def spec_copyInts.f (l0 : List Int) : Option (List Int) := (some (([] : List Int) : List Int)).bind fun y246 => (if y246.length + l0.length < 17592186044416 then (some (y246 ++ l0)) else (none))
set_option maxHeartbeats 8000000 in
set_option maxRecDepth 100000 in
theorem spec_copyInts.calls (A0 : Option Addr) (c0 : Nat) (l0 : List Int) (r : List Int) (w : World) (hr0 : Kd.C (Kd.int .i64) w A0 l0.length l0) (hc0 : l0.length ≤ c0) (h : spec_copyInts.f l0 = some r) :
  Calls Tryd.prog 112 #[.slice A0 l0.length c0] w fun e w' => ∃ v0_ : Value, e = .returned (v0_) ∧ Kd.R (Kd.int .i64) 3 w' w.heap.size (fun _ => True) v0_ r ∧ Below w.heap.size w w' := by
 have HR0 := mk0 hr0
 have HC0 := mk0 hc0
 clear hr0 hc0
 have HB := mk0 (Below.refl w.heap.size w)
 have H : ((some (([] : List Int) : List Int)).bind fun y246 => (if y246.length + l0.length < 17592186044416 then (some (y246 ++ l0)) else (none))) = some r := h
 clear h
 obtain ⟨y246, hy246⟩ : ∃ y_ : List Int, y_ = (([] : List Int)) := ⟨_, rfl⟩
 replace H : (if y246.length + l0.length < 17592186044416 then (some (y246 ++ l0)) else (none)) = some r := by first | (rw [hy246]; with_reducible exact H) | (rw [hy246]; exact (Option.bind_some _ _).symm.trans H) | (rw [hy246]; exact H) | exact H
 have Ny246 := mk0 hy246
 clear hy246
 by_cases c2 : y246.length + l0.length < 17592186044416
 ·
  rw [if_pos c2] at H
  have LMc2 := mk0 c2
  clear c2
  obtain ⟨y249, hy249⟩ : ∃ y_ : List Int, y_ = (y246 ++ l0) := ⟨_, rfl⟩
  replace H : (some y249) = some r := by first | (rw [hy249]; with_reducible exact H) | (rw [hy249]; exact (Option.bind_some _ _).symm.trans H) | (rw [hy249]; exact H) | exact H
  have Ny249 := mk0 hy249
  clear hy249
  obtain rfl := Option.some.inj H
  go_enter Tryd.func112, Tryd.ntmps112
  go_wp2_with (first | ((with_reducible refine gate_dst (N := 3) rfl ?_); refine Kd.R_lit (Kd.int .i64) _ 3 ?hg (N := 3) ?hd (xs := ([] : List Int)) (inner := []) (ok := fun _ => True) (okp := fun _ => True) ?hr ?hp (fun _ hk => hk) trivial (Below.refl _ _) (Nat.le_refl _) (by simp) ?_; (case hd => rfl); (case hg => rfl); (case hr => first | (go_simp; done) | (go_simp; rfl)); (case hp => exact (Reps.none _ _)); intro v247 w3 ho4 hb hg_ hnew_; clear hg_ hnew_; (first | rw [← Ny246.out] at ho4 | (simp only [Int.reduceToNat] at ho4; rw [← Ny246.out] at ho4)); have HO248 := mk0 (Kd.R_lower ho4 (below_size (by with_reducible repeat (first | exact HB.out | apply ba_ | apply bn_ | apply bd_)))); replace HB := mk0 (below_step (by with_reducible repeat (first | exact HB.out | apply ba_ | apply bn_ | apply bd_)) hb); clear hb ho4) | ((with_reducible refine gate_builtin (b := .append) (xs := #[.tmp 3, .tmp 4]) rfl ?_); at_builtin; refine Kd.R_append_rows (Kd.int .i64) (w0 := w) w.heap.size rfl (.tmp 3) (.tmp 4) 23 3 (.int .i64 0) 8 rfl Tryd.underlying23 info3 rfl (by decide) (by omega) v247 y246 l0 _ _ _ (fun _ => True) (fun _ => False) rfl rfl ?aO ?aR (fun _ _ h => h) (fun _ h => h.elim) ?aF ?aB ?aS ?aL ?_; (case aR => repeat (first | exact (Kd.C_below HR0.out HB.out) | (with_reducible first | refine Ca_ ?_ _ | refine Cn_ ?_ _ | refine Cd_ ?_))); (case aB => exact (by with_reducible repeat (first | exact HB.out | apply ba_ | apply bn_ | apply bd_))); (case aF => exact (fun _ _ => trivial)); (case aO => exact (by (with_reducible repeat (first | apply Ra_ | apply Rn_ | apply Rd_)); exact HO248.out)); (case aS => exact (below_size (by with_reducible repeat (first | exact HB.out | apply ba_ | apply bn_ | apply bd_)))); (case aL => have := LMc2.out; omega); intro v250 w5 ho hb hg hat; rw [← Ny249.out] at ho; replace HB := mk0 (hb); have HO251 := mk0 (ho); clear HO248; clear ho hb hg hat))
  go_ret
  exact ⟨_, by first | rfl | (simp [errW_none, errW_some] <;> rfl) | (simp [*, errW_none, errW_some] <;> rfl), by (with_reducible repeat (first | apply Ra_ | apply Rn_ | apply Rd_)); exact HO251.out, by with_reducible repeat (first | exact HB.out | apply ba_ | apply bn_ | apply bd_)⟩
 ·
  rw [if_neg c2] at H
  exact nn_ H
/-! spec_reader_spoil -/
def spec_reader_spoil.f (k : Nat) (s0_0 : List Int) (s0_1 : Int) (l1 : List Int) (a2 : Int) : Option (List Int × Int) := (spec_copyInts.f l1).bind fun t252 => ((spec_reader_pick.f k s0_0 s0_1 20).bind fun bt255 => (if bt255.1 = 0 then (if t252.length < 17592186044416 then (some ((t252 ++ [a2]), bt255.2)) else (none)) else (if bt255.1 = 1 then (if (t252.length : Int) > 0 then (if 1 ≤ (t252.length : Int) then (some ((t252.drop (1 : Int).toNat), bt255.2)) else (none)) else (some (t252, bt255.2))) else (if bt255.1 = 2 then (if (t252.length : Int) > 0 then ((spec_reader_pick.f k s0_0 bt255.2 (t252.length : Int)).bind fun bt263 => ((spec_reader_one.f k s0_0 bt263.2 (([(-1), a2, 0, 1] : List Int))).bind fun bt268 => (if 0 ≤ bt263.1 then (if bt263.1 < (t252.length : Int) then (some ((t252.set (bt263.1 : Int).toNat bt268.1), bt268.2)) else (none)) else (none)))) else (some (t252, bt255.2))) else (some (t252, bt255.2))))))
set_option maxHeartbeats 8000000 in
set_option maxRecDepth 100000 in
theorem spec_reader_spoil.calls (k : Nat) (g : Nat) (s0_0 : List Int) (s0_1 : Int) (A1 : Option Addr) (c1 : Nat) (l1 : List Int) (a2 : Int) (r1 : List Int) (r2 : Int) (w0 w : World) (hI : IsS71 w0 w g s0_0 s0_1) (hB : Below w0.heap.size w0 w) (hr1 : Kd.C (Kd.int .i64) w A1 l1.length l1) (hc1 : l1.length ≤ c1) (hf1 : ∀ ad, A1 = some ad → 0 < l1.length → ad.block ≠ g) (h : spec_reader_spoil.f k s0_0 s0_1 l1 a2 = some (r1, r2)) :
  Calls Tryd.prog 131 #[.pointer (some ⟨g, 0, none⟩), .slice A1 l1.length c1, .int .i64 a2] w fun e w' => ∃ v0_ : Value, e = .returned (v0_) ∧ Kd.Q (Kd.int .i64) 3 w' w.heap.size (fun _ => True) v0_ r1 ∧ IsS71 w0 w' g s0_0 r2 ∧ Below w0.heap.size w0 w' ∧ KeepBut w w' g none := by
 have HR1 := mk0 hr1
 have HC1 := mk0 hc1
 clear hr1 hc1
 have HI0 := mk0 hI
 have HK := mk0 (KeepBut.refl w g none)
 have HL := mk0 hB.size
 clear hI
 have HW0 := mk0 hB.size
 have HB := mk0 hB
 clear hB
 have H : ((spec_copyInts.f l1).bind fun t252 => ((spec_reader_pick.f k s0_0 s0_1 20).bind fun bt255 => (if bt255.1 = 0 then (if t252.length < 17592186044416 then (some ((t252 ++ [a2]), bt255.2)) else (none)) else (if bt255.1 = 1 then (if (t252.length : Int) > 0 then (if 1 ≤ (t252.length : Int) then (some ((t252.drop (1 : Int).toNat), bt255.2)) else (none)) else (some (t252, bt255.2))) else (if bt255.1 = 2 then (if (t252.length : Int) > 0 then ((spec_reader_pick.f k s0_0 bt255.2 (t252.length : Int)).bind fun bt263 => ((spec_reader_one.f k s0_0 bt263.2 (([(-1), a2, 0, 1] : List Int))).bind fun bt268 => (if 0 ≤ bt263.1 then (if bt263.1 < (t252.length : Int) then (some ((t252.set (bt263.1 : Int).toNat bt268.1), bt268.2)) else (none)) else (none)))) else (some (t252, bt255.2))) else (some (t252, bt255.2))))))) = some (r1, r2) := h
 clear h
 replace H := bE_ H
 obtain ⟨t252, A40, H⟩ := H
 have A4 := mk0 A40
 clear A40
 replace H := bE_ H
 obtain ⟨⟨t255, t256⟩, A50, H⟩ := H
 have A5 := mk0 A50
 clear A50
 by_cases c6 : t255 = 0
 ·
  rw [if_pos c6] at H
  have c6b0 : (t255 == 0) = true := beq_iff_eq.mpr c6
  have c6b1 : (t255 != 0) = false := bne_eq_false_iff_eq.mpr c6
  clear c6
  by_cases c7 : t252.length < 17592186044416
  ·
   rw [if_pos c7] at H
   have LMc7 := mk0 c7
   clear c7
   obtain ⟨y257, hy257⟩ : ∃ y_ : List Int, y_ = (t252 ++ [a2]) := ⟨_, rfl⟩
   replace H : (some (y257, t256)) = some (r1, r2) := by first | (rw [hy257]; with_reducible exact H) | (rw [hy257]; exact (Option.bind_some _ _).symm.trans H) | (rw [hy257]; exact H) | exact H
   have Ny257 := mk0 hy257
   clear hy257
   simp only [Option.some.injEq, Prod.mk.injEq] at H
   obtain ⟨rfl, rfl⟩ := H
   go_enter Tryd.func131, Tryd.ntmps131
   go_wp2_with (first | ((with_reducible refine gate_callee (f := 112) rfl ?_); refine goesL_ (some 9) rfl rfl Tryd.func112 (by kernel_rfl) rfl #[.slice A1 l1.length c1] rfl (by (try simp only [List.map_toArray, List.map_cons, List.map_nil]); first | done | rfl | (simp only [List.length_drop, List.length_take]; rfl)) ?_; (with_reducible refine (spec_copyInts.calls _ _ l1 t252 _ ?side1 ?side2 A4.out).mono ?_); (case side1 => exact Kd.C_keep 0 HR1.out (by with_reducible repeat (first | exact HK.out | apply ks_ | apply kn_ | apply kd_ | apply ka_)) hf1); (case side2 => exact HC1.out); rintro e w8 ⟨v253, rfl, ho0, hb⟩; refine ⟨_, rfl, ?_⟩; have HO254 := mk0 (Kd.R_lower ho0 (keep_size (w := w) (g := g) (row := none) (by with_reducible repeat (first | exact HK.out | apply ks_ | apply kn_ | apply kd_ | apply ka_)))); replace HK := mk0 (KeepBut.trans (by with_reducible repeat (first | exact HK.out | apply ks_ | apply kn_ | apply kd_ | apply ka_)) (KeepBut.of_below hb g none) (.inl rfl)); replace HB := mk0 (below_step (by with_reducible repeat (first | exact HB.out | apply ba_ | apply bn_ | apply bd_ | refine below_set ?_ (IsS71.ge HI0.out))) hb); replace HI0 := mk0 (IsS71.below (by with_reducible repeat (first | exact HI0.out | apply ia_ | apply in_ | apply id_ | apply is_)) hb); clear hb ho0) | ((with_reducible refine gate_callee (f := 129) rfl ?_); refine goesL_ (some 11) rfl rfl Tryd.func129 (by kernel_rfl) rfl #[.pointer (some ⟨g, 0, none⟩), .int .i64 20] rfl (by (try simp only [List.map_toArray, List.map_cons, List.map_nil]); first | done | rfl | (simp only [List.length_drop, List.length_take]; rfl)) ?_; (with_reducible refine (spec_reader_pick.calls k g s0_0 s0_1 20 t255 t256 w0 _ ?side1 ?side2 A5.out).mono ?_); (case side1 => with_reducible repeat (first | exact HI0.out | apply ia_ | apply in_ | apply id_ | apply is_)); (case side2 => with_reducible repeat (first | exact HB.out | apply ba_ | apply bn_ | apply bd_ | refine below_set ?_ (IsS71.ge HI0.out))); rintro e w9 ⟨rfl, hi, hb, hk⟩; refine ⟨_, rfl, ?_⟩; replace HO254 := mk0 (Kd.R_mono (Kd.R_keep (IsS71.apart (show IsS71 w0 _ g s0_0 s0_1 from by with_reducible repeat (first | exact HI0.out | apply ia_ | apply in_ | apply id_ | apply is_)) (by (with_reducible repeat (first | apply Ra_ | apply Rn_ | apply Rd_)); exact HO254.out) (by decide)) hk (fun _ h => h.2)) (fun _ h => h.1)); replace HK := mk0 (KeepBut.trans (by with_reducible repeat (first | exact HK.out | apply ks_ | apply kn_ | apply kd_ | apply ka_)) hk (.inl rfl)); replace HB := mk0 (hb); replace HI0 := mk0 (hi); clear hb hk hi) | ((with_reducible refine gate_builtin (b := .append) (xs := #[.tmp 14, .tmp 16]) rfl ?_); at_builtin; refine Kd.R_append (Kd.int .i64) w.heap.size rfl (.tmp 14) (.tmp 16) 23 3 (.int .i64 0) 8 rfl Tryd.underlying23 info3 rfl (by decide) (by omega) v253 t252 a2 [.int .i64 a2] (fun _ => True) (fun _ => False) rfl rfl ?aP (fun _ hk => hk.elim) ?aF ?aO (Below.refl _ _) ?aS ?aL ?_; (case aP => exact rfl); (case aF => exact (fun _ _ => trivial)); (case aO => exact (by (with_reducible repeat (first | apply Ra_ | apply Rn_ | apply Rd_)); exact HO254.out)); (case aS => exact (keep_size (w := w) (g := g) (row := none) (by with_reducible repeat (first | exact HK.out | apply ks_ | apply kn_ | apply kd_ | apply ka_)))); (case aL => have := LMc7.out; omega); intro v258 w10 ho hb hg hat; rw [← Ny257.out] at ho; replace HB := mk0 (below_weaken (by with_reducible repeat (first | exact HB.out | apply ba_ | apply bn_ | apply bd_ | refine below_set ?_ (IsS71.ge HI0.out))) HL.out hb); replace HI0 := mk0 (IsS71.grown (by with_reducible repeat (first | exact HI0.out | apply ia_ | apply in_ | apply id_ | apply is_)) hg (IsS71.own_ne HI0.out HO254.out (by decide))); replace HK := mk0 (KeepBut.trans (by with_reducible repeat (first | exact HK.out | apply ks_ | apply kn_ | apply kd_ | apply ka_)) (KeepBut.of_grown hg g) (Kd.R_base2 HO254.out)); have HO259 := mk0 (ho); clear HO254; clear ho hb hg hat))
   go_ret
   exact ⟨_, by first | rfl | (simp [errW_none, errW_some] <;> rfl) | (simp [*, errW_none, errW_some] <;> rfl), Kd.Q_of_R (by (with_reducible repeat (first | apply Ra_ | apply Rn_ | apply Rd_)); exact HO259.out), by with_reducible repeat (first | exact HI0.out | apply ia_ | apply in_ | apply id_ | apply is_), by with_reducible repeat (first | exact HB.out | apply ba_ | apply bn_ | apply bd_ | refine below_set ?_ (IsS71.ge HI0.out)), by with_reducible repeat (first | exact HK.out | apply ks_ | apply kn_ | apply kd_ | apply ka_)⟩
  ·
   rw [if_neg c7] at H
   exact nn_ H
 ·
  rw [if_neg c6] at H
  have c6b0 : (t255 == 0) = false := beq_eq_false_iff_ne.mpr c6
  have c6b1 : (t255 != 0) = true := bne_iff_ne.mpr c6
  by_cases c11 : t255 = 1
  ·
   rw [if_pos c11] at H
   have c11b0 : (t255 == 1) = true := beq_iff_eq.mpr c11
   have c11b1 : (t255 != 1) = false := bne_eq_false_iff_eq.mpr c11
   clear c11
   by_cases c12 : (t252.length : Int) > 0
   ·
    rw [if_pos c12] at H
    have c12b0 : decide (0 < (t252.length : Int)) = true := decide_eq_true c12
    have c12b1 : decide (0 < t252.length) = true := decide_eq_true (by omega)
    clear c12
    by_cases c13 : 1 ≤ (t252.length : Int)
    ·
     rw [if_pos c13] at H
     have c13b0 := eq_true c13
     have c13b1 : decide (1 ≤ (t252.length : Int)) = true := decide_eq_true c13
     clear c13
     obtain ⟨y260, hy260⟩ : ∃ y_ : List Int, y_ = (t252.drop (1 : Int).toNat) := ⟨_, rfl⟩
     replace H : (some (y260, t256)) = some (r1, r2) := by first | (rw [hy260]; with_reducible exact H) | (rw [hy260]; exact (Option.bind_some _ _).symm.trans H) | (rw [hy260]; exact H) | exact H
     have Ny260 := mk0 hy260
     clear hy260
     simp only [Option.some.injEq, Prod.mk.injEq] at H
     obtain ⟨rfl, rfl⟩ := H
     go_enter Tryd.func131, Tryd.ntmps131
     go_wp2_with (first | ((with_reducible refine gate_callee (f := 112) rfl ?_); refine goesL_ (some 9) rfl rfl Tryd.func112 (by kernel_rfl) rfl #[.slice A1 l1.length c1] rfl (by (try simp only [List.map_toArray, List.map_cons, List.map_nil]); first | done | rfl | (simp only [List.length_drop, List.length_take]; rfl)) ?_; (with_reducible refine (spec_copyInts.calls _ _ l1 t252 _ ?side1 ?side2 A4.out).mono ?_); (case side1 => exact Kd.C_keep 0 HR1.out (by with_reducible repeat (first | exact HK.out | apply ks_ | apply kn_ | apply kd_ | apply ka_)) hf1); (case side2 => exact HC1.out); rintro e w14 ⟨v253, rfl, ho0, hb⟩; refine ⟨_, rfl, ?_⟩; have HO254 := mk0 (Kd.R_lower ho0 (keep_size (w := w) (g := g) (row := none) (by with_reducible repeat (first | exact HK.out | apply ks_ | apply kn_ | apply kd_ | apply ka_)))); replace HK := mk0 (KeepBut.trans (by with_reducible repeat (first | exact HK.out | apply ks_ | apply kn_ | apply kd_ | apply ka_)) (KeepBut.of_below hb g none) (.inl rfl)); replace HB := mk0 (below_step (by with_reducible repeat (first | exact HB.out | apply ba_ | apply bn_ | apply bd_ | refine below_set ?_ (IsS71.ge HI0.out))) hb); replace HI0 := mk0 (IsS71.below (by with_reducible repeat (first | exact HI0.out | apply ia_ | apply in_ | apply id_ | apply is_)) hb); clear hb ho0) | ((with_reducible refine gate_callee (f := 129) rfl ?_); refine goesL_ (some 11) rfl rfl Tryd.func129 (by kernel_rfl) rfl #[.pointer (some ⟨g, 0, none⟩), .int .i64 20] rfl (by (try simp only [List.map_toArray, List.map_cons, List.map_nil]); first | done | rfl | (simp only [List.length_drop, List.length_take]; rfl)) ?_; (with_reducible refine (spec_reader_pick.calls k g s0_0 s0_1 20 t255 t256 w0 _ ?side1 ?side2 A5.out).mono ?_); (case side1 => with_reducible repeat (first | exact HI0.out | apply ia_ | apply in_ | apply id_ | apply is_)); (case side2 => with_reducible repeat (first | exact HB.out | apply ba_ | apply bn_ | apply bd_ | refine below_set ?_ (IsS71.ge HI0.out))); rintro e w15 ⟨rfl, hi, hb, hk⟩; refine ⟨_, rfl, ?_⟩; replace HO254 := mk0 (Kd.R_mono (Kd.R_keep (IsS71.apart (show IsS71 w0 _ g s0_0 s0_1 from by with_reducible repeat (first | exact HI0.out | apply ia_ | apply in_ | apply id_ | apply is_)) (by (with_reducible repeat (first | apply Ra_ | apply Rn_ | apply Rd_)); exact HO254.out) (by decide)) hk (fun _ h => h.2)) (fun _ h => h.1)); replace HK := mk0 (KeepBut.trans (by with_reducible repeat (first | exact HK.out | apply ks_ | apply kn_ | apply kd_ | apply ka_)) hk (.inl rfl)); replace HB := mk0 (hb); replace HI0 := mk0 (hi); clear hb hk hi; obtain ⟨Ao16, co16, eo16⟩ := Kd.R_slice HO254.out; subst eo16; have q17 : (1 : Int) ≤ ((t252.length : Int) : Int) := od_ (by with_reducible assumption); obtain ⟨i017, hi017, _, hsz17, _⟩ := info_parts info3; have hcut17 := cut_from (P := Tryd.prog) 23 3 .i64 Tryd.underlying23 hi017 1 hsz17 Ao16 t252.length co16 1 (by omega) q17; have hr17 := Kd.Q_drop (k := (1 : Int).toNat) (Kd.Q_of_R HO254.out) (by omega); obtain ⟨A17, hA17⟩ : ∃ A1, A1 = (if co16 = (1 : Int).toNat then Ao16 else (Ao16 : Option Addr).map (·.add ((1 : Int).toNat * 1))) := ⟨_, rfl⟩; obtain ⟨c17, hc17⟩ : ∃ c1, c1 = co16 - (1 : Int).toNat := ⟨_, rfl⟩; have hy17 : y260.length = t252.length - (1 : Int).toNat := (by rw [Ny260.out, List.length_drop]); rw [← Ny260.out] at hr17; rw [← hy17, ← hA17, ← hc17] at hcut17; replace hr17 : Kd.Q (Kd.int .i64) 3 w15 w.heap.size (fun _ => True) (.slice A17 y260.length c17) y260 := (by rw [hA17, hc17, hy17]; exact hr17); have HE17 : Aside0 ((Value.slice A17 y260.length c17).ownBlock = (.slice Ao16 t252.length co16 : Value).ownBlock) := ⟨by rw [hA17]; split <;> (cases (Ao16 : Option Addr) <;> rfl)⟩; clear hy17 hi017 hsz17 HO254 hA17 hc17; have HO262 := mk0 hr17; clear hr17; replace q17 := eq_true q17))
     go_ret
     exact ⟨_, by first | rfl | (simp [errW_none, errW_some] <;> rfl) | (simp [*, errW_none, errW_some] <;> rfl), by (with_reducible repeat (first | apply Qa_ | apply Qn_ | apply Qd_)); exact HO262.out, by with_reducible repeat (first | exact HI0.out | apply ia_ | apply in_ | apply id_ | apply is_), by with_reducible repeat (first | exact HB.out | apply ba_ | apply bn_ | apply bd_ | refine below_set ?_ (IsS71.ge HI0.out)), by with_reducible repeat (first | exact HK.out | apply ks_ | apply kn_ | apply kd_ | apply ka_)⟩
    ·
     rw [if_neg c13] at H
     exact nn_ H
   ·
    rw [if_neg c12] at H
    have c12b0 : decide (0 < (t252.length : Int)) = false := decide_eq_false c12
    have c12b1 : decide (0 < t252.length) = false := decide_eq_false (by omega)
    clear c12
    simp only [Option.some.injEq, Prod.mk.injEq] at H
    obtain ⟨rfl, rfl⟩ := H
    go_enter Tryd.func131, Tryd.ntmps131
    go_wp2_with (first | ((with_reducible refine gate_callee (f := 112) rfl ?_); refine goesL_ (some 9) rfl rfl Tryd.func112 (by kernel_rfl) rfl #[.slice A1 l1.length c1] rfl (by (try simp only [List.map_toArray, List.map_cons, List.map_nil]); first | done | rfl | (simp only [List.length_drop, List.length_take]; rfl)) ?_; (with_reducible refine (spec_copyInts.calls _ _ l1 t252 _ ?side1 ?side2 A4.out).mono ?_); (case side1 => exact Kd.C_keep 0 HR1.out (by with_reducible repeat (first | exact HK.out | apply ks_ | apply kn_ | apply kd_ | apply ka_)) hf1); (case side2 => exact HC1.out); rintro e w18 ⟨v253, rfl, ho0, hb⟩; refine ⟨_, rfl, ?_⟩; have HO254 := mk0 (Kd.R_lower ho0 (keep_size (w := w) (g := g) (row := none) (by with_reducible repeat (first | exact HK.out | apply ks_ | apply kn_ | apply kd_ | apply ka_)))); replace HK := mk0 (KeepBut.trans (by with_reducible repeat (first | exact HK.out | apply ks_ | apply kn_ | apply kd_ | apply ka_)) (KeepBut.of_below hb g none) (.inl rfl)); replace HB := mk0 (below_step (by with_reducible repeat (first | exact HB.out | apply ba_ | apply bn_ | apply bd_ | refine below_set ?_ (IsS71.ge HI0.out))) hb); replace HI0 := mk0 (IsS71.below (by with_reducible repeat (first | exact HI0.out | apply ia_ | apply in_ | apply id_ | apply is_)) hb); clear hb ho0) | ((with_reducible refine gate_callee (f := 129) rfl ?_); refine goesL_ (some 11) rfl rfl Tryd.func129 (by kernel_rfl) rfl #[.pointer (some ⟨g, 0, none⟩), .int .i64 20] rfl (by (try simp only [List.map_toArray, List.map_cons, List.map_nil]); first | done | rfl | (simp only [List.length_drop, List.length_take]; rfl)) ?_; (with_reducible refine (spec_reader_pick.calls k g s0_0 s0_1 20 t255 t256 w0 _ ?side1 ?side2 A5.out).mono ?_); (case side1 => with_reducible repeat (first | exact HI0.out | apply ia_ | apply in_ | apply id_ | apply is_)); (case side2 => with_reducible repeat (first | exact HB.out | apply ba_ | apply bn_ | apply bd_ | refine below_set ?_ (IsS71.ge HI0.out))); rintro e w19 ⟨rfl, hi, hb, hk⟩; refine ⟨_, rfl, ?_⟩; replace HO254 := mk0 (Kd.R_mono (Kd.R_keep (IsS71.apart (show IsS71 w0 _ g s0_0 s0_1 from by with_reducible repeat (first | exact HI0.out | apply ia_ | apply in_ | apply id_ | apply is_)) (by (with_reducible repeat (first | apply Ra_ | apply Rn_ | apply Rd_)); exact HO254.out) (by decide)) hk (fun _ h => h.2)) (fun _ h => h.1)); replace HK := mk0 (KeepBut.trans (by with_reducible repeat (first | exact HK.out | apply ks_ | apply kn_ | apply kd_ | apply ka_)) hk (.inl rfl)); replace HB := mk0 (hb); replace HI0 := mk0 (hi); clear hb hk hi; obtain ⟨Ao20, co20, eo20⟩ := Kd.R_slice HO254.out; subst eo20))
    go_ret
    exact ⟨_, by first | rfl | (simp [errW_none, errW_some] <;> rfl) | (simp [*, errW_none, errW_some] <;> rfl), Kd.Q_of_R (by (with_reducible repeat (first | apply Ra_ | apply Rn_ | apply Rd_)); exact HO254.out), by with_reducible repeat (first | exact HI0.out | apply ia_ | apply in_ | apply id_ | apply is_), by with_reducible repeat (first | exact HB.out | apply ba_ | apply bn_ | apply bd_ | refine below_set ?_ (IsS71.ge HI0.out)), by with_reducible repeat (first | exact HK.out | apply ks_ | apply kn_ | apply kd_ | apply ka_)⟩
  ·
   rw [if_neg c11] at H
   have c11b0 : (t255 == 1) = false := beq_eq_false_iff_ne.mpr c11
   have c11b1 : (t255 != 1) = true := bne_iff_ne.mpr c11
   by_cases c21 : t255 = 2
   ·
    rw [if_pos c21] at H
    have c21b0 : (t255 == 2) = true := beq_iff_eq.mpr c21
    have c21b1 : (t255 != 2) = false := bne_eq_false_iff_eq.mpr c21
    clear c21
    by_cases c22 : (t252.length : Int) > 0
    ·
     rw [if_pos c22] at H
     have c22b0 : decide (0 < (t252.length : Int)) = true := decide_eq_true c22
     have c22b1 : decide (0 < t252.length) = true := decide_eq_true (by omega)
     clear c22
     replace H := bE_ H
     obtain ⟨⟨t263, t264⟩, A230, H⟩ := H
     have A23 := mk0 A230
     clear A230
     obtain ⟨y265, hy265⟩ : ∃ y_ : List Int, y_ = (([(-1), a2, 0, 1] : List Int)) := ⟨_, rfl⟩
     replace H : ((spec_reader_one.f k s0_0 t264 y265).bind fun bt268 => (if 0 ≤ t263 then (if t263 < (t252.length : Int) then (some ((t252.set (t263 : Int).toNat bt268.1), bt268.2)) else (none)) else (none))) = some (r1, r2) := by first | (rw [hy265]; with_reducible exact H) | (rw [hy265]; exact (Option.bind_some _ _).symm.trans H) | (rw [hy265]; exact H) | exact H
     have Ny265 := mk0 hy265
     clear hy265
     replace H := bE_ H
     obtain ⟨⟨t268, t269⟩, A240, H⟩ := H
     have A24 := mk0 A240
     clear A240
     by_cases c25 : 0 ≤ t263
     ·
      rw [if_pos c25] at H
      have c25b0 : decide (0 ≤ t263) = true := decide_eq_true c25
      clear c25
      by_cases c26 : t263 < (t252.length : Int)
      ·
       rw [if_pos c26] at H
       have c26b0 : decide (t263 < (t252.length : Int)) = true := decide_eq_true c26
       clear c26
       obtain ⟨y270, hy270⟩ : ∃ y_ : List Int, y_ = (t252.set (t263 : Int).toNat t268) := ⟨_, rfl⟩
       replace H : (some (y270, t269)) = some (r1, r2) := by first | (rw [hy270]; with_reducible exact H) | (rw [hy270]; exact (Option.bind_some _ _).symm.trans H) | (rw [hy270]; exact H) | exact H
       have Ny270 := mk0 hy270
       clear hy270
       simp only [Option.some.injEq, Prod.mk.injEq] at H
       obtain ⟨rfl, rfl⟩ := H
       go_enter Tryd.func131, Tryd.ntmps131
       go_wp2_with (first | ((with_reducible refine gate_callee (f := 112) rfl ?_); refine goesL_ (some 9) rfl rfl Tryd.func112 (by kernel_rfl) rfl #[.slice A1 l1.length c1] rfl (by (try simp only [List.map_toArray, List.map_cons, List.map_nil]); first | done | rfl | (simp only [List.length_drop, List.length_take]; rfl)) ?_; (with_reducible refine (spec_copyInts.calls _ _ l1 t252 _ ?side1 ?side2 A4.out).mono ?_); (case side1 => exact Kd.C_keep 0 HR1.out (by with_reducible repeat (first | exact HK.out | apply ks_ | apply kn_ | apply kd_ | apply ka_)) hf1); (case side2 => exact HC1.out); rintro e w28 ⟨v253, rfl, ho0, hb⟩; refine ⟨_, rfl, ?_⟩; have HO254 := mk0 (Kd.R_lower ho0 (keep_size (w := w) (g := g) (row := none) (by with_reducible repeat (first | exact HK.out | apply ks_ | apply kn_ | apply kd_ | apply ka_)))); replace HK := mk0 (KeepBut.trans (by with_reducible repeat (first | exact HK.out | apply ks_ | apply kn_ | apply kd_ | apply ka_)) (KeepBut.of_below hb g none) (.inl rfl)); replace HB := mk0 (below_step (by with_reducible repeat (first | exact HB.out | apply ba_ | apply bn_ | apply bd_ | refine below_set ?_ (IsS71.ge HI0.out))) hb); replace HI0 := mk0 (IsS71.below (by with_reducible repeat (first | exact HI0.out | apply ia_ | apply in_ | apply id_ | apply is_)) hb); clear hb ho0) | ((with_reducible refine gate_callee (f := 129) rfl ?_); refine goesL_ (some 11) rfl rfl Tryd.func129 (by kernel_rfl) rfl #[.pointer (some ⟨g, 0, none⟩), .int .i64 20] rfl (by (try simp only [List.map_toArray, List.map_cons, List.map_nil]); first | done | rfl | (simp only [List.length_drop, List.length_take]; rfl)) ?_; (with_reducible refine (spec_reader_pick.calls k g s0_0 s0_1 20 t255 t256 w0 _ ?side1 ?side2 A5.out).mono ?_); (case side1 => with_reducible repeat (first | exact HI0.out | apply ia_ | apply in_ | apply id_ | apply is_)); (case side2 => with_reducible repeat (first | exact HB.out | apply ba_ | apply bn_ | apply bd_ | refine below_set ?_ (IsS71.ge HI0.out))); rintro e w29 ⟨rfl, hi, hb, hk⟩; refine ⟨_, rfl, ?_⟩; replace HO254 := mk0 (Kd.R_mono (Kd.R_keep (IsS71.apart (show IsS71 w0 _ g s0_0 s0_1 from by with_reducible repeat (first | exact HI0.out | apply ia_ | apply in_ | apply id_ | apply is_)) (by (with_reducible repeat (first | apply Ra_ | apply Rn_ | apply Rd_)); exact HO254.out) (by decide)) hk (fun _ h => h.2)) (fun _ h => h.1)); replace HK := mk0 (KeepBut.trans (by with_reducible repeat (first | exact HK.out | apply ks_ | apply kn_ | apply kd_ | apply ka_)) hk (.inl rfl)); replace HB := mk0 (hb); replace HI0 := mk0 (hi); clear hb hk hi; obtain ⟨Ao30, co30, eo30⟩ := Kd.R_slice HO254.out; subst eo30) | ((with_reducible refine gate_callee (f := 129) rfl ?_); refine goesL_ (some 34) rfl rfl Tryd.func129 (by kernel_rfl) rfl #[.pointer (some ⟨g, 0, none⟩), .int .i64 (t252.length : Int)] rfl (by (try simp only [List.map_toArray, List.map_cons, List.map_nil]); first | done | rfl | (simp only [List.length_drop, List.length_take]; rfl)) ?_; (with_reducible refine (spec_reader_pick.calls k g s0_0 t256 (t252.length : Int) t263 t264 w0 _ ?side1 ?side2 A23.out).mono ?_); (case side1 => with_reducible repeat (first | exact HI0.out | apply ia_ | apply in_ | apply id_ | apply is_)); (case side2 => with_reducible repeat (first | exact HB.out | apply ba_ | apply bn_ | apply bd_ | refine below_set ?_ (IsS71.ge HI0.out))); rintro e w31 ⟨rfl, hi, hb, hk⟩; refine ⟨_, rfl, ?_⟩; replace HO254 := mk0 (Kd.R_mono (Kd.R_keep (IsS71.apart (show IsS71 w0 _ g s0_0 t256 from by with_reducible repeat (first | exact HI0.out | apply ia_ | apply in_ | apply id_ | apply is_)) (by (with_reducible repeat (first | apply Ra_ | apply Rn_ | apply Rd_)); exact HO254.out) (by decide)) hk (fun _ h => h.2)) (fun _ h => h.1)); replace HK := mk0 (KeepBut.trans (by with_reducible repeat (first | exact HK.out | apply ks_ | apply kn_ | apply kd_ | apply ka_)) hk (.inl rfl)); replace HB := mk0 (hb); replace HI0 := mk0 (hi); clear hb hk hi) | ((with_reducible refine gate_dst (N := 37) rfl ?_); refine Kd.R_lit (Kd.int .i64) _ 3 ?hg (N := 37) ?hd (xs := ([(-1), a2, 0, 1] : List Int)) (inner := [.int .i64 (-1), .int .i64 a2, .int .i64 0, .int .i64 1]) (ok := fun _ => True) (okp := fun _ => True) ?hr ?hp (fun _ hk => hk) trivial (Below.refl _ _) (Nat.le_refl _) (by simp) ?_; (case hd => rfl); (case hg => rfl); (case hr => first | (go_simp; done) | (go_simp; rfl)); (case hp => exact (Reps.one (show Kd.M (Kd.int .i64) _ _ _ (-1) [.int .i64 (-1)] from rfl) (Reps.one (show Kd.M (Kd.int .i64) _ _ _ a2 [.int .i64 a2] from rfl) (Reps.one (show Kd.M (Kd.int .i64) _ _ _ 0 [.int .i64 0] from rfl) (Reps.one (show Kd.M (Kd.int .i64) _ _ _ 1 [.int .i64 1] from rfl) (Reps.none _ _)))))); intro v266 w32 ho33 hb hg_ hnew_; clear hg_ hnew_; (first | rw [← Ny265.out] at ho33 | (simp only [Int.reduceToNat] at ho33; rw [← Ny265.out] at ho33)); have HO267 := mk0 (Kd.R_lower (Kd.R_new' ho33 (Kd.R_lt (by (with_reducible repeat (first | apply Ra_ | apply Rn_ | apply Rd_)); exact HO254.out))) (keep_size (w := w) (g := g) (row := none) (by with_reducible repeat (first | exact HK.out | apply ks_ | apply kn_ | apply kd_ | apply ka_)))); replace HO254 := mk0 (Kd.R_elder' (by (with_reducible repeat (first | apply Ra_ | apply Rn_ | apply Rd_)); exact HO254.out) (Kd.R_base ho33) hb); replace HK := mk0 (KeepBut.trans (by with_reducible repeat (first | exact HK.out | apply ks_ | apply kn_ | apply kd_ | apply ka_)) (KeepBut.of_below hb g none) (.inl rfl)); replace HB := mk0 (below_step (by with_reducible repeat (first | exact HB.out | apply ba_ | apply bn_ | apply bd_ | refine below_set ?_ (IsS71.ge HI0.out))) hb); replace HI0 := mk0 (IsS71.below (by with_reducible repeat (first | exact HI0.out | apply ia_ | apply in_ | apply id_ | apply is_)) hb); clear hb ho33; obtain ⟨Ao34, co34, eo34⟩ := Kd.R_slice HO267.out; subst eo34) | ((with_reducible refine gate_callee (f := 130) rfl ?_); refine goesL_ (some 38) rfl rfl Tryd.func130 (by kernel_rfl) rfl #[.pointer (some ⟨g, 0, none⟩), .slice Ao34 y265.length co34] rfl (by (try simp only [List.map_toArray, List.map_cons, List.map_nil]); first | done | rfl | (simp only [List.length_drop, List.length_take]; rfl)) ?_; (with_reducible refine (spec_reader_one.calls k g s0_0 t264 _ _ y265 t268 t269 w0 _ ?side1 ?side2 ?side3 ?side4 ?side5 A24.out).mono ?_); (case side1 => with_reducible repeat (first | exact HI0.out | apply ia_ | apply in_ | apply id_ | apply is_)); (case side2 => with_reducible repeat (first | exact HB.out | apply ba_ | apply bn_ | apply bd_ | refine below_set ?_ (IsS71.ge HI0.out))); (case side3 => repeat (first | exact (Kd.R_reads' HO267.out).2.2 | (with_reducible first | refine Ca_ ?_ _ | refine Cn_ ?_ _ | refine Cd_ ?_))); (case side4 => exact (Kd.R_reads' HO267.out).2.1); (case side5 => exact far_slice (IsS71.own_ne HI0.out HO267.out (by decide))); rintro e w35 ⟨rfl, hi, hb, hk⟩; refine ⟨_, rfl, ?_⟩; replace HO254 := mk0 (Kd.R_mono (Kd.R_keep (IsS71.apart (show IsS71 w0 _ g s0_0 t264 from by with_reducible repeat (first | exact HI0.out | apply ia_ | apply in_ | apply id_ | apply is_)) (by (with_reducible repeat (first | apply Ra_ | apply Rn_ | apply Rd_)); exact HO254.out) (by decide)) hk (fun _ h => h.2)) (fun _ h => h.1)); replace HO267 := mk0 (Kd.R_mono (Kd.R_keep (IsS71.apart (show IsS71 w0 _ g s0_0 t264 from by with_reducible repeat (first | exact HI0.out | apply ia_ | apply in_ | apply id_ | apply is_)) (by (with_reducible repeat (first | apply Ra_ | apply Rn_ | apply Rd_)); exact HO267.out) (by decide)) hk (fun _ h => h.2)) (fun _ h => h.1)); replace HK := mk0 (KeepBut.trans (by with_reducible repeat (first | exact HK.out | apply ks_ | apply kn_ | apply kd_ | apply ka_)) hk (.inl rfl)); replace HB := mk0 (hb); replace HI0 := mk0 (hi); clear hb hk hi; have p27 : 0 ≤ (t263 : Int) := od_ (by with_reducible assumption); have q27 : (t263 : Int) < ((t252.length : Int) : Int) := od_ (by with_reducible assumption); obtain ⟨go27, co27, eo27, gb27, gl27, cl27, HG27⟩ := Kd.R_form HO254.out (by omega); (first | cases eo27 | (injection eo27 with ea_ en_ ec_; (first | subst ea_ | (injection ea_ with ea_; subst ea_)); subst ec_; clear en_)); have GB27 := mk0 gb27; have GG27 := mk0 HG27; clear gb27 gl27 HG27; obtain ⟨hx27_0, hf27_0⟩ := Kd.R_celln 0 HO254.out (t263 : Int) p27 q27; replace p27 := eq_true p27; replace q27 := eq_true q27; have n_ := mk0 (Kd.R_mono (ok' := (fun k_ => some k_ ≠ (.slice Ao34 y265.length co34 : Value).ownBlock)) HO254.out (fun k_ hk => hk.2)); clear HO254; have HO254 := n_; clear n_; obtain ⟨hy36_, hz36_⟩ := Kd.R_celln 0 HO254.out (t263 : Int) (od_ (by with_reducible assumption)) (od_ (by with_reducible assumption)); have HP36 := Kd.R_putg HO254.out (t263 : Int) t268) | ((with_reducible refine gate_store (t := 3) (p := 39) rfl ?_); refine store_event (t := 3) (p := 39) (v := ?vo_w37) (w1 := (w35.setCell ⟨go27, (t263 : Int).toNat, none⟩ (.int .i64 t268))) ?hg ?ho ?hn ?hr ?_; (case ho => rfl); (case hg => rfl); (case hn => rfl); (case hr => first | (go_simp; done) | (go_simp; rfl)); intro w37 hw; have hg : w35.grownBy w37 (some go27) := (by rw [hw]; exact HP36.2); have hp_ : Kd.R (Kd.int .i64) 3 w37 w.heap.size (fun k_ => some k_ ≠ (.slice Ao34 y265.length co34 : Value).ownBlock) (.slice (some ⟨go27, 0, none⟩) t252.length co30) y270 := (by rw [hw, Ny270.out]; exact HP36.1); clear HP36; replace HI0 := mk0 (IsS71.grown (by with_reducible repeat (first | exact HI0.out | apply ia_ | apply in_ | apply id_ | apply is_)) hg (IsS71.own_ne HI0.out HO254.out (by decide))); replace HO267 := mk0 (Kd.R_after (v := (.slice (some ⟨go27, 0, none⟩) t252.length co30)) (v1 := (.slice (some ⟨go27, 0, none⟩) t252.length co30)) (ok := (fun _ => True)) (by (with_reducible repeat (first | apply Ra_ | apply Rn_ | apply Rd_)); exact HO267.out) hg (.inl rfl)); replace HB := mk0 ((by rw [hw]; exact below_set (HB.out) (Nat.le_trans HL.out GB27.out) : Below w0.heap.size w0 w37)); replace HK := mk0 (KeepBut.trans (by with_reducible repeat (first | exact HK.out | apply ks_ | apply kn_ | apply kd_ | apply ka_)) (KeepBut.of_grown hg g) (Kd.R_base2 HO254.out)); replace HO254 := mk0 (hp_); clear hg hw hp_))
       go_ret
       exact ⟨_, by first | rfl | (simp [errW_none, errW_some] <;> rfl) | (simp [*, errW_none, errW_some] <;> rfl), Kd.Q_of_R (by (with_reducible repeat (first | apply Ra_ | apply Rn_ | apply Rd_)); exact Kd.R_mono HO254.out (fun _ hk => trivial)), by with_reducible repeat (first | exact HI0.out | apply ia_ | apply in_ | apply id_ | apply is_), by with_reducible repeat (first | exact HB.out | apply ba_ | apply bn_ | apply bd_ | refine below_set ?_ (IsS71.ge HI0.out)), by with_reducible repeat (first | exact HK.out | apply ks_ | apply kn_ | apply kd_ | apply ka_)⟩
      ·
       rw [if_neg c26] at H
       exact nn_ H
     ·
      rw [if_neg c25] at H
      exact nn_ H
    ·
     rw [if_neg c22] at H
     have c22b0 : decide (0 < (t252.length : Int)) = false := decide_eq_false c22
     have c22b1 : decide (0 < t252.length) = false := decide_eq_false (by omega)
     clear c22
     simp only [Option.some.injEq, Prod.mk.injEq] at H
     obtain ⟨rfl, rfl⟩ := H
     go_enter Tryd.func131, Tryd.ntmps131
     go_wp2_with (first | ((with_reducible refine gate_callee (f := 112) rfl ?_); refine goesL_ (some 9) rfl rfl Tryd.func112 (by kernel_rfl) rfl #[.slice A1 l1.length c1] rfl (by (try simp only [List.map_toArray, List.map_cons, List.map_nil]); first | done | rfl | (simp only [List.length_drop, List.length_take]; rfl)) ?_; (with_reducible refine (spec_copyInts.calls _ _ l1 t252 _ ?side1 ?side2 A4.out).mono ?_); (case side1 => exact Kd.C_keep 0 HR1.out (by with_reducible repeat (first | exact HK.out | apply ks_ | apply kn_ | apply kd_ | apply ka_)) hf1); (case side2 => exact HC1.out); rintro e w38 ⟨v253, rfl, ho0, hb⟩; refine ⟨_, rfl, ?_⟩; have HO254 := mk0 (Kd.R_lower ho0 (keep_size (w := w) (g := g) (row := none) (by with_reducible repeat (first | exact HK.out | apply ks_ | apply kn_ | apply kd_ | apply ka_)))); replace HK := mk0 (KeepBut.trans (by with_reducible repeat (first | exact HK.out | apply ks_ | apply kn_ | apply kd_ | apply ka_)) (KeepBut.of_below hb g none) (.inl rfl)); replace HB := mk0 (below_step (by with_reducible repeat (first | exact HB.out | apply ba_ | apply bn_ | apply bd_ | refine below_set ?_ (IsS71.ge HI0.out))) hb); replace HI0 := mk0 (IsS71.below (by with_reducible repeat (first | exact HI0.out | apply ia_ | apply in_ | apply id_ | apply is_)) hb); clear hb ho0) | ((with_reducible refine gate_callee (f := 129) rfl ?_); refine goesL_ (some 11) rfl rfl Tryd.func129 (by kernel_rfl) rfl #[.pointer (some ⟨g, 0, none⟩), .int .i64 20] rfl (by (try simp only [List.map_toArray, List.map_cons, List.map_nil]); first | done | rfl | (simp only [List.length_drop, List.length_take]; rfl)) ?_; (with_reducible refine (spec_reader_pick.calls k g s0_0 s0_1 20 t255 t256 w0 _ ?side1 ?side2 A5.out).mono ?_); (case side1 => with_reducible repeat (first | exact HI0.out | apply ia_ | apply in_ | apply id_ | apply is_)); (case side2 => with_reducible repeat (first | exact HB.out | apply ba_ | apply bn_ | apply bd_ | refine below_set ?_ (IsS71.ge HI0.out))); rintro e w39 ⟨rfl, hi, hb, hk⟩; refine ⟨_, rfl, ?_⟩; replace HO254 := mk0 (Kd.R_mono (Kd.R_keep (IsS71.apart (show IsS71 w0 _ g s0_0 s0_1 from by with_reducible repeat (first | exact HI0.out | apply ia_ | apply in_ | apply id_ | apply is_)) (by (with_reducible repeat (first | apply Ra_ | apply Rn_ | apply Rd_)); exact HO254.out) (by decide)) hk (fun _ h => h.2)) (fun _ h => h.1)); replace HK := mk0 (KeepBut.trans (by with_reducible repeat (first | exact HK.out | apply ks_ | apply kn_ | apply kd_ | apply ka_)) hk (.inl rfl)); replace HB := mk0 (hb); replace HI0 := mk0 (hi); clear hb hk hi; obtain ⟨Ao40, co40, eo40⟩ := Kd.R_slice HO254.out; subst eo40))
     go_ret
     exact ⟨_, by first | rfl | (simp [errW_none, errW_some] <;> rfl) | (simp [*, errW_none, errW_some] <;> rfl), Kd.Q_of_R (by (with_reducible repeat (first | apply Ra_ | apply Rn_ | apply Rd_)); exact HO254.out), by with_reducible repeat (first | exact HI0.out | apply ia_ | apply in_ | apply id_ | apply is_), by with_reducible repeat (first | exact HB.out | apply ba_ | apply bn_ | apply bd_ | refine below_set ?_ (IsS71.ge HI0.out)), by with_reducible repeat (first | exact HK.out | apply ks_ | apply kn_ | apply kd_ | apply ka_)⟩
   ·
    rw [if_neg c21] at H
    have c21b0 : (t255 == 2) = false := beq_eq_false_iff_ne.mpr c21
    have c21b1 : (t255 != 2) = true := bne_iff_ne.mpr c21
    simp only [Option.some.injEq, Prod.mk.injEq] at H
    obtain ⟨rfl, rfl⟩ := H
    go_enter Tryd.func131, Tryd.ntmps131
    go_wp2_with (first | ((with_reducible refine gate_callee (f := 112) rfl ?_); refine goesL_ (some 9) rfl rfl Tryd.func112 (by kernel_rfl) rfl #[.slice A1 l1.length c1] rfl (by (try simp only [List.map_toArray, List.map_cons, List.map_nil]); first | done | rfl | (simp only [List.length_drop, List.length_take]; rfl)) ?_; (with_reducible refine (spec_copyInts.calls _ _ l1 t252 _ ?side1 ?side2 A4.out).mono ?_); (case side1 => exact Kd.C_keep 0 HR1.out (by with_reducible repeat (first | exact HK.out | apply ks_ | apply kn_ | apply kd_ | apply ka_)) hf1); (case side2 => exact HC1.out); rintro e w41 ⟨v253, rfl, ho0, hb⟩; refine ⟨_, rfl, ?_⟩; have HO254 := mk0 (Kd.R_lower ho0 (keep_size (w := w) (g := g) (row := none) (by with_reducible repeat (first | exact HK.out | apply ks_ | apply kn_ | apply kd_ | apply ka_)))); replace HK := mk0 (KeepBut.trans (by with_reducible repeat (first | exact HK.out | apply ks_ | apply kn_ | apply kd_ | apply ka_)) (KeepBut.of_below hb g none) (.inl rfl)); replace HB := mk0 (below_step (by with_reducible repeat (first | exact HB.out | apply ba_ | apply bn_ | apply bd_ | refine below_set ?_ (IsS71.ge HI0.out))) hb); replace HI0 := mk0 (IsS71.below (by with_reducible repeat (first | exact HI0.out | apply ia_ | apply in_ | apply id_ | apply is_)) hb); clear hb ho0) | ((with_reducible refine gate_callee (f := 129) rfl ?_); refine goesL_ (some 11) rfl rfl Tryd.func129 (by kernel_rfl) rfl #[.pointer (some ⟨g, 0, none⟩), .int .i64 20] rfl (by (try simp only [List.map_toArray, List.map_cons, List.map_nil]); first | done | rfl | (simp only [List.length_drop, List.length_take]; rfl)) ?_; (with_reducible refine (spec_reader_pick.calls k g s0_0 s0_1 20 t255 t256 w0 _ ?side1 ?side2 A5.out).mono ?_); (case side1 => with_reducible repeat (first | exact HI0.out | apply ia_ | apply in_ | apply id_ | apply is_)); (case side2 => with_reducible repeat (first | exact HB.out | apply ba_ | apply bn_ | apply bd_ | refine below_set ?_ (IsS71.ge HI0.out))); rintro e w42 ⟨rfl, hi, hb, hk⟩; refine ⟨_, rfl, ?_⟩; replace HO254 := mk0 (Kd.R_mono (Kd.R_keep (IsS71.apart (show IsS71 w0 _ g s0_0 s0_1 from by with_reducible repeat (first | exact HI0.out | apply ia_ | apply in_ | apply id_ | apply is_)) (by (with_reducible repeat (first | apply Ra_ | apply Rn_ | apply Rd_)); exact HO254.out) (by decide)) hk (fun _ h => h.2)) (fun _ h => h.1)); replace HK := mk0 (KeepBut.trans (by with_reducible repeat (first | exact HK.out | apply ks_ | apply kn_ | apply kd_ | apply ka_)) hk (.inl rfl)); replace HB := mk0 (hb); replace HI0 := mk0 (hi); clear hb hk hi))
    go_ret
    exact ⟨_, by first | rfl | (simp [errW_none, errW_some] <;> rfl) | (simp [*, errW_none, errW_some] <;> rfl), Kd.Q_of_R (by (with_reducible repeat (first | apply Ra_ | apply Rn_ | apply Rd_)); exact HO254.out), by with_reducible repeat (first | exact HI0.out | apply ia_ | apply in_ | apply id_ | apply is_), by with_reducible repeat (first | exact HB.out | apply ba_ | apply bn_ | apply bd_ | refine below_set ?_ (IsS71.ge HI0.out)), by with_reducible repeat (first | exact HK.out | apply ks_ | apply kn_ | apply kd_ | apply ka_)⟩
-- NOT PRINTED: function 104 (spec_anyGraph)
end Go.Proofs.YtdjdfbfcjajlkaaDoor.PFnValidLog

namespace Go.Proofs.YtdjdfbfcjajlkaaDoorW.PrintWords
set_option linter.unusedVariables false
set_option linter.unusedSimpArgs false
open Go Go.RowKit
namespace Kd
section
variable {α : Type} {d : Kd α} {e base g n cap : Nat} {ok ok' oki okp : Nat → Prop} {W : World} {v : Value} {xs : List α} {i : Int} {c : List Value}
theorem H_N (h : H d e W base ok v xs i oki c) (h0 : 0 ≤ i) (hi : i.toNat < xs.length) {x' : α} (hF : FK d W okp x' c) (hp : ∀ k, okp k → ok' k ∧ some k ≠ v.ownBlock) (ho : ∀ k, ok k → ok' k) : N d e W base ok' v (xs.set i.toNat x') := by
 obtain ⟨hoo, f, hown, inner, hw, hr⟩ := h
 rw [List.length_zipIdx] at hw
 have hraw := reps_raw hr (fun x cs hq => ⟨(gap f d i.toNat c).K_len ((gap f d i.toNat c).K_of_M hq), (gap f d i.toNat c).K_one ((gap f d i.toNat c).K_of_M hq)⟩)
 rw [List.length_zipIdx] at hraw
 refine ⟨fun k hk => ho k (hown k hk).1, chunks d.sz xs.length inner, by rw [chunks_length, List.length_set], ⟨fun k hk => hk.symm, inner, by rw [chunks_length]; exact hw, hraw⟩, fun j x cs hx hc => ?_⟩
 have hj : j < xs.length := by have := (List.getElem?_eq_some_iff.1 hx).1; rwa [List.length_set] at this
 have hM := hr.2 j _ (zip_at (List.getElem?_eq_getElem hj))
 rw [chunks_get hc]
 by_cases he : j = i.toNat
 ·
  subst he
  rw [List.getElem?_set_self hj] at hx
  injection hx with hx
  subst hx
  have e9 : (inner.drop (i.toNat * d.sz)).take d.sz = c := (hM.1 rfl).1
  rw [e9]
  exact FK_mono hF hp
 ·
  rw [List.getElem?_set_ne (fun e_ => he e_.symm), List.getElem?_eq_getElem hj] at hx
  injection hx with hx
  subst hx
  exact FK_mono (FK_of_M (hM.2 he)) (fun k hk => ⟨ho k hk.1.1.1, hk.1.2⟩)
theorem H_lt9 (h : H d e W base ok (.slice (some ⟨g, 0, none⟩) n cap) xs i oki c) : g < W.heap.size := by
 obtain ⟨_, f, hR⟩ := h
 exact R_lt hR g (by simp [Value.ownBlock])
end
end Kd
end Go.Proofs.YtdjdfbfcjajlkaaDoorW.PrintWords

namespace Go.Proofs.YtdjdfbfcjajlkaaDoor
set_option linter.unusedVariables false
set_option linter.unusedSimpArgs false
open Go.RowKit Go.Shelf Bits
open Go.Proofs.YtdjdfbfcjajlkaaDoorW.PrintWords Go.Proofs.YtdjdfbfcjajlkaaDoorW.PrintLast Go.Proofs.YtdjdfbfcjajlkaaDoorW.PrintMore
def push_T : Bool × List (List Nat × List Nat) := (true, [([], []), ([], []), ([1], [1]), ([2], [2]), ([3], [3]), ([], []), ([5], [5]), ([6], [6]), ([4, 7], [4, 7]), ([0, 0, 1, 2, 3, 4, 5, 6, 7, 8], [0]), ([9, 0, 1, 2, 3, 4, 5, 6, 7, 8], [9]), ([10, 8, 8, 0, 1, 2, 3, 4, 5, 6, 7, 8], [8, 10])])
def push_B : List Nat := [0, 0, 2, 6, 14, 0, 32, 96, 254, 511, 1023, 2047]
theorem push_tab : rtab .any (opsOf Tryd.f172 0) = push_T := by kernel_rfl
theorem push_bits : waitsOk push_T.2 push_B = true := by kernel_rfl
theorem ta (x : Nat) : ∀ w, Sem.run Tryd.prog (Instr.typeAssert (.iface 3 (.int .i64 (x : Int))) 20 3 false) w = .ok (.int .i64 (x : Int)) w := fun _ => by kernel_rfl
set_option maxHeartbeats 8000000 in
set_option maxRecDepth 100000 in
theorem Push_walk (h : Nat) (L : List Nat) (x : Nat) (A : Option Addr) (c : Nat) (h16 : L.length ≤ 1000) (w : World) (hlt : h + 1 ≤ w.heap.size) (hRL : Kd.R (Kd.int .i64) 3 w (h + 1) (fun _ => True) (.slice A (ints L).length c) (ints L))
  (hx : w.cell? ⟨h, 1, none⟩ = some (.slice A L.length c)) (hf : w.frozen? ⟨h, 1, none⟩ = false) :
  Calls Tryd.prog 172 #[.pointer (some ⟨h, 0, none⟩), .iface 3 (.int .i64 x)] w fun e w' => e = .returned (.tuple #[]) ∧ ∃ w2 w3 v, w' = w3.setCell ⟨h, 1, none⟩ v ∧ Kd.R (Kd.int .i64) 3 w3 (h + 1) (fun _ => True) v (ints L ++ [(x : Int)]) ∧
   Below w.heap.size w w2 ∧ Below (h + 1) w w3 ∧ w2.grownBy w3 (Value.slice A (ints L).length c).ownBlock ∧ (v.ownBlock = (Value.slice A (ints L).length c).ownBlock ∨ ∃ b, v.ownBlock = some b ∧ w2.heap.size ≤ b) := by
 have HRL := Lib.hid hRL
 have HLT := Lib.hid hlt
 clear hRL
 go_enter Tryd.func172, Tryd.ntmps172
 have TA := ta x
 go_wp2
 refine start_ (n := 12) (S := fun w' => w'.cell? ⟨h, 1, none⟩ = some (.slice A L.length c)) (ds := [8, 11]) #[false, false, false, false, false, false, false, false, false, false, false, false] (by kernel_rfl) rfl rfl hx (fun hHeld => ?_)
 refine with_tabW push_tab push_bits (fun HT_ HW_ => ?_)
 generalize hw1 : w.drew = w1 at hHeld ⊢
 have HW1 := Lib.hid hw1
 clear hw1
 refine pure_ (i := 0) (N := some 4) (v := ?_) (a' := ?_) #[true, false, false, false, false, false, false, false, false, false, false, false] rfl rfl (any_of HT_.out (by kernel_rfl)) (fun _ _ _ h => h) (Or.inl ⟨by rfl, ?_⟩) ?_ ?_
 rotate_left
 ·
  intro w'
  go_simp
  with_reducible rfl
 rotate_left
 ·
  simp only [Act.put, List.setIfInBounds_toArray, List.set_cons_zero, List.set_cons_succ]
  rfl
 refine pure_ (i := 1) (N := some 5) (v := ?_) (a' := ?_) #[true, true, false, false, false, false, false, false, false, false, false, false] rfl rfl (any_of HT_.out (by kernel_rfl)) (fun _ _ _ h => h) (Or.inl ⟨by rfl, ?_⟩) ?_ ?_
 rotate_left
 ·
  intro w'
  go_simp
  with_reducible rfl
 rotate_left
 ·
  simp only [Act.put, List.setIfInBounds_toArray, List.set_cons_zero, List.set_cons_succ]
  rfl
 refine pure_ (i := 2) (N := some 6) (v := ?_) (a' := ?_) #[true, true, true, false, false, false, false, false, false, false, false, false] rfl rfl (any_of HT_.out (by kernel_rfl)) (fun _ _ _ h => h) (Or.inl ⟨by rfl, ?_⟩) ?_ ?_
 rotate_left
 ·
  intro w'
  go_simp
  with_reducible rfl
 rotate_left
 ·
  simp only [Act.put, List.setIfInBounds_toArray, List.set_cons_zero, List.set_cons_succ]
  rfl
 refine pure_ (i := 3) (N := some 7) (v := ?_) (a' := ?_) #[true, true, true, true, false, false, false, false, false, false, false, false] rfl rfl (any_of HT_.out (by kernel_rfl)) (fun _ _ _ h => h) (Or.inl ⟨by rfl, ?_⟩) ?_ ?_
 rotate_left
 ·
  intro w'
  go_simp
  with_reducible rfl
 rotate_left
 ·
  simp only [Act.put, List.setIfInBounds_toArray, List.set_cons_zero, List.set_cons_succ]
  rfl
 refine take_ (i := 4) (N := some 8) (v := ?_) (a' := ?_) #[true, true, true, true, true, false, false, false, false, false, false, false] rfl rfl (take_ofW HT_.out HW_.out (by kernel_rfl)) (fun _ _ _ h => h) (Or.inl ⟨by rfl, ?_⟩) hHeld ?_ ?_
 rotate_left
 ·
  intro w' s0
  go_simp
  with_reducible rfl
 rotate_left
 ·
  simp only [Act.put, List.setIfInBounds_toArray, List.set_cons_zero, List.set_cons_succ]
  rfl
 refine pure_ (i := 5) (N := some 9) (v := ?_) (a' := ?_) #[true, true, true, true, true, true, false, false, false, false, false, false] rfl rfl (any_of HT_.out (by kernel_rfl)) (fun _ _ _ h => h) (Or.inl ⟨by rfl, ?_⟩) ?_ ?_
 rotate_left
 ·
  intro w'
  go_simp
  with_reducible rfl
 rotate_left
 ·
  simp only [Act.put, List.setIfInBounds_toArray, List.set_cons_zero, List.set_cons_succ]
  rfl
 refine pure_ (i := 6) (N := some 10) (v := ?_) (a' := ?_) #[true, true, true, true, true, true, true, false, false, false, false, false] rfl rfl (any_of HT_.out (by kernel_rfl)) (fun _ _ _ h => h) (Or.inl ⟨by rfl, ?_⟩) ?_ ?_
 rotate_left
 ·
  intro w'
  go_simp
  with_reducible rfl
 rotate_left
 ·
  simp only [Act.put, List.setIfInBounds_toArray, List.set_cons_zero, List.set_cons_succ]
  rfl
 refine one_ (i := 7) (N := some 11) #[true, true, true, true, true, true, true, true, false, false, false, false] rfl rfl (one_of HT_.out (by kernel_rfl)) (by decide) (fun K hK => ?_)
 refine Kd.R_lit_step (Kd.int .i64) _ 3 ?hg (N := 11) ?hd (xs := ([(x : Int)] : List Int)) (inner := [.int .i64 x]) (ok := fun _ => True) (okp := fun _ => True) ?hr ?hp (fun _ hk => hk) trivial (Below.refl _ _) (Nat.le_refl _) (by simp) ?_
 case hd => rfl
 case hg => rfl
 case hr => first | (go_simp; done) | (go_simp; rfl)
 case hp => exact (Reps.one (show Kd.M (Kd.int .i64) _ _ _ (x : Int) [.int .i64 x] from rfl) (Reps.none _ _))
 intro v11 w2 ho hb _ _
 have HS0_ := (hb.cell (World.block_lt_of_cell? _ _ hHeld)).trans hHeld
 obtain ⟨A11, c11, rfl⟩ := Kd.R_slice ho
 have HR11 := Lib.hid ho
 have hB1 : Below w.heap.size w w1 := by rw [← HW1.out]; exact below_drew1 (Below.refl _ _)
 have hB2 : Below w.heap.size w w2 := hB1.trans (hb.mono hB1.size)
 have HB2 := Lib.hid hB2
 have HR2 := Lib.hid (Kd.R_below HRL.out hB2)
 clear ho hb hB1 hB2
 refine hK.out _ _ HS0_ (fun hHeld => ?_)
 clear hK K
 refine norm_ (a' := ?_) ?_ ?_
 rotate_left
 ·
  show Act.put _ (some 11) _ = _
  simp only [Act.put, List.setIfInBounds_toArray, List.set_cons_zero, List.set_cons_succ]
  rfl
 refine last_ (i := 8) (N := some 12) #[true, true, true, true, true, true, true, true, true, false, false, false] rfl rfl (one_of HT_.out (by kernel_rfl)) (by decide) (fun K hK => ?_)
 refine Kd.R_append_rows_step (Kd.int .i64) (Rr := (Kd.int .i64).K w2) (w0 := w) (h + 1) (by rfl) (.tmp 8) (.tmp 11) 23 3 (.int .i64 0) 8 rfl Tryd.underlying23 infoInt rfl (by decide) (by omega) (.slice A (ints L).length c) (ints L) [(x : Int)] A11 1 c11 (fun _ => True) (fun _ => False) ?q1 ?q2 ?q3 ?q4 (fun _ _ h => h) (fun _ h => h.elim) (fun _ _ => trivial) ?q8 ?q9 ?q10 ?_
 case q1 => rw [ints_length]; rfl
 case q2 => rfl
 case q3 => exact HR2.out
 case q4 => exact (Kd.R_reads' HR11.out).2.2
 case q8 => exact HB2.out.mono HLT.out
 case q9 => exact Nat.le_trans HLT.out HB2.out.size
 case q10 => rw [ints_length]; omega
 intro v12 w3 ho hb hg hat
 obtain ⟨A12, c12, rfl⟩ := Kd.R_slice ho
 have HR3 := Lib.hid ho
 have HB3 := Lib.hid hb
 have HG3 := Lib.hid hg
 have HAT := Lib.hid hat
 have hne : (Value.slice A (ints L).length c).ownBlock ≠ some h := fun e => by
  have := Kd.R_base HRL.out h e
  omega
 have hblk : w3.heap[h]? = w.heap[h]? := (hg.block h (Nat.lt_of_lt_of_le HLT.out HB2.out.size) (fun e => hne e.symm)).trans (HB2.out.block h HLT.out)
 have hx3 : w3.cell? ⟨h, 1, none⟩ = some (.slice A L.length c) := by simp only [World.cell?, hblk]; exact hx
 have hf3 : w3.frozen? ⟨h, 1, none⟩ = false := by simp only [World.frozen?, hblk]; exact hf
 clear ho hb hg hat hne hHeld
 refine hK.out _ _ ?_
 clear hK K
 refine norm_ (a' := ?_) ?_ ?_
 rotate_left
 ·
  show Act.put _ (some 12) _ = _
  simp only [Act.put, List.setIfInBounds_toArray, List.set_cons_zero, List.set_cons_succ]
  rfl
 refine pure_ (i := 9) (N := some 13) (v := ?_) (a' := ?_) #[true, true, true, true, true, true, true, true, true, true, false, false] rfl rfl (any_of HT_.out (by kernel_rfl)) (fun _ _ _ h => h) (Or.inl ⟨by rfl, ?_⟩) ?_ ?_
 rotate_left
 ·
  intro w'
  go_simp
  with_reducible rfl
 rotate_left
 ·
  simp only [Act.put, List.setIfInBounds_toArray, List.set_cons_zero, List.set_cons_succ]
  rfl
 refine pure_ (i := 10) (N := some 14) (v := ?_) (a' := ?_) #[true, true, true, true, true, true, true, true, true, true, true, false] rfl rfl (any_of HT_.out (by kernel_rfl)) (fun _ _ _ h => h) (Or.inl ⟨by rfl, ?_⟩) ?_ ?_
 rotate_left
 ·
  intro w'
  go_simp
  with_reducible rfl
 rotate_left
 ·
  simp only [Act.put, List.setIfInBounds_toArray, List.set_cons_zero, List.set_cons_succ]
  rfl
 refine last_ (i := 11) (N := none) #[true, true, true, true, true, true, true, true, true, true, true, true] rfl rfl (one_of HT_.out (by kernel_rfl)) (by decide) (fun K hK => ?_)
 refine skip_ (w1 := w3.setCell ⟨h, 1, none⟩ (.slice A12 (ints L ++ [(x : Int)]).length c12)) (by rfl) rfl ?_ ?_
 ·
  first | (go_simp; done) | (go_simp; rfl)
 refine hK.out _ _ ?_
 clear hK K
 refine done_ (done_of HT_.out (by kernel_rfl)) ?_
 try go_wp2
 go_end0
 exact ⟨rfl, w2, w3, _, rfl, HR3.out, HB2.out, HB3.out, HG3.out, HAT.out⟩
end Go.Proofs.YtdjdfbfcjajlkaaDoor
