/- Draws: DrawValidLog. Cut down, by a program of mine, from what print.sh printed for this seat. -/
import Derived.Test.YtlcdffhhimbbmaaDoorQ6
import Derived.Test.YtlcdffhhimbbmaaDoorQ7
namespace Go.Proofs.YtlcdffhhimbbmaaDoor.PFnValidLog
open Go.RowKit Go.Proofs.YtlcdffhhimbbmaaDoorW.PrintWords Go.Proofs.YtlcdffhhimbbmaaDoorW.PrintLast Go.Proofs.YtlcdffhhimbbmaaDoorW.PrintMore
attribute [local go_sem] max2_int min2_int max_two min_two max_three min_three max_four min_four
set_option linter.unusedVariables false
set_option linter.unusedSimpArgs false
def spec_DrawValidLog.f (k : Nat) (l0 : List Int) : Option ((List (S41)) × (List (S30))) := (spec_newReader.f l0).bind fun bt474 => ((spec_anyGraph.f k bt474.1 bt474.2).bind fun bt477 => ((spec_anyLog.f k bt474.1 bt477.2 bt477.1).bind fun bt481 => (some (bt477.1, bt481.1))))
set_option maxHeartbeats 8000000 in
set_option maxRecDepth 100000 in
theorem spec_DrawValidLog.calls (k : Nat) (A0 : Option Addr) (c0 : Nat) (l0 : List Int) (r1 : List (S41)) (r2 : List (S30)) (w : World) (hr0 : Kd.C (Kd.int .u8) w A0 l0.length l0) (hc0 : l0.length ≤ c0) (h : spec_DrawValidLog.f k l0 = some (r1, r2)) :
  Calls Tryd.prog 9 #[.slice A0 l0.length c0] w fun e w' => ∃ v0_ v1_ : Value, e = .returned (.tuple #[v0_, v1_]) ∧ Kd.N k41 41 w' w.heap.size (fun k_ => (w.heap.size ≤ k_) ∧ some k_ ≠ (v1_ : Value).ownBlock) v0_ r1 ∧ Kd.R k30 30 w' w.heap.size (fun k_ => (w.heap.size ≤ k_)) v1_ r2 ∧ Below w.heap.size w w' := by
 have HR0 := mk0 hr0
 have HC0 := mk0 hc0
 clear hr0 hc0
 have HB := mk0 (Below.refl w.heap.size w)
 have H : ((spec_newReader.f l0).bind fun bt474 => ((spec_anyGraph.f k bt474.1 bt474.2).bind fun bt477 => ((spec_anyLog.f k bt474.1 bt477.2 bt477.1).bind fun bt481 => (some (bt477.1, bt481.1))))) = some (r1, r2) := h
 clear h
 replace H := bE_ H
 obtain ⟨⟨t474, t475⟩, A20, H⟩ := H
 have A2 := mk0 A20
 clear A20
 replace H := bE_ H
 obtain ⟨⟨t477, t480⟩, A30, H⟩ := H
 have A3 := mk0 A30
 clear A30
 replace H := bE_ H
 obtain ⟨⟨t481, t484⟩, A40, H⟩ := H
 have A4 := mk0 A40
 clear A40
 simp only [Option.some.injEq, Prod.mk.injEq] at H
 obtain ⟨rfl, rfl⟩ := H
 go_enter Tryd.func9, Tryd.ntmps9
 go_wp2_with (first | ((with_reducible refine gate_callee (f := 27) rfl ?_); refine goesL_ (some 7) rfl rfl Tryd.func27 (by kernel_rfl) rfl #[.slice A0 l0.length c0] rfl (by (try simp only [List.map_toArray, List.map_cons, List.map_nil]); first | done | rfl | (simp only [List.length_drop, List.length_take]; rfl)) ?_; (with_reducible refine (spec_newReader.calls _ _ l0 t474 t475 w _ ?side1 ?side2 ?side3 A2.out).mono ?_); (case side1 => with_reducible repeat (first | exact HB.out | apply ba_ | apply bn_ | apply bd_)); (case side2 => exact HR0.out); (case side3 => exact HC0.out); rintro e w5 ⟨g476, rfl, hi, hb, hb2⟩; refine ⟨_, rfl, ?_⟩; replace HB := mk0 (hb); have HI476 := mk0 (hi); clear hb hb2 hi) | ((with_reducible refine gate_callee (f := 28) rfl ?_); refine goesL_ (some 9) rfl rfl Tryd.func28 (by kernel_rfl) rfl #[.pointer (some ⟨g476, 0, none⟩)] rfl (by (try simp only [List.map_toArray, List.map_cons, List.map_nil]); first | done | rfl | (simp only [List.length_drop, List.length_take]; rfl)) ?_; (with_reducible refine (spec_anyGraph.calls k g476 t474 t475 t477 t480 w _ ?side1 ?side2 A3.out).mono ?_); (case side1 => repeat (first | (with_reducible first | exact HI476.out | apply ia_ | apply in_ | apply id_ | apply is_) | exact HI476.out)); (case side2 => repeat (first | (with_reducible first | exact HB.out | apply ba_ | apply bn_ | apply bd_ | refine below_set ?_ (IsS71.ge HI476.out)) | exact HB.out)); rintro e w6 ⟨v478, rfl, ho0, hi, hb, hk⟩; refine ⟨_, rfl, ?_⟩; have HO479 := mk0 (Kd.N_lower (Kd.N_mono (ok' := fun k_ => (w.heap.size ≤ k_) ∧ k_ ≠ g476) ho0 (fun k_ hk_ => ⟨(Nat.le_trans (below_size (by repeat (first | (with_reducible first | exact HB.out | apply ba_ | apply bn_ | apply bd_ | refine below_set ?_ (IsS71.ge HI476.out)) | exact HB.out))) hk_), (IsS71.fresh (by repeat (first | (with_reducible first | exact HI476.out | apply ia_ | apply in_ | apply id_ | apply is_) | exact HI476.out)) k_ hk_)⟩)) (below_size (by repeat (first | (with_reducible first | exact HB.out | apply ba_ | apply bn_ | apply bd_ | refine below_set ?_ (IsS71.ge HI476.out)) | exact HB.out)))); replace HB := mk0 (hb); replace HI476 := mk0 (hi); clear hb hk hi ho0; obtain ⟨Ao7, co7, eo7⟩ := Kd.N_slice HO479.out; subst eo7) | ((with_reducible refine gate_callee (f := 29) rfl ?_); refine goesL_ (some 13) rfl rfl Tryd.func29 (by kernel_rfl) rfl #[.pointer (some ⟨g476, 0, none⟩), .slice Ao7 t477.length co7] rfl (by (try simp only [List.map_toArray, List.map_cons, List.map_nil]); first | done | rfl | (simp only [List.length_drop, List.length_take]; rfl)) ?_; (with_reducible refine (spec_anyLog.calls k g476 t474 t480 _ _ t477 t481 t484 w _ ?side1 ?side2 ?side3 ?side4 A4.out).mono ?_); (case side1 => repeat (first | (with_reducible first | exact HI476.out | apply ia_ | apply in_ | apply id_ | apply is_) | exact HI476.out)); (case side2 => repeat (first | (with_reducible first | exact HB.out | apply ba_ | apply bn_ | apply bd_ | refine below_set ?_ (IsS71.ge HI476.out)) | exact HB.out)); (case side3 => exact Kd.C_foot_ownV (base := 0) (Kd.N_V (Kd.N_mono (ok := fun k_ => (((w.heap.size ≤ k_)) ∧ k_ ≠ g476)) (by (with_reducible repeat (first | apply Na_ | apply Nn_ | apply Nd_)); exact HO479.out) (fun k_ hk_ => (⟨hk_, hk_.2⟩ : _ ∧ k_ ≠ g476)))) (fun _ h_ => h_.2)); (case side4 => exact (Kd.N_reads' HO479.out).2.1); rintro e w8 ⟨v482, rfl, ho0, hi, hb, hk⟩; refine ⟨_, rfl, ?_⟩; replace HO479 := mk0 (Kd.N_mono (Kd.N_told (Kd.N_oldK (Kd.N_mono (ok := fun k_ => (((w.heap.size ≤ k_)) ∧ k_ ≠ g476)) (by (with_reducible repeat (first | apply Na_ | apply Nn_ | apply Nd_)); exact HO479.out) (fun k_ hk_ => (⟨hk_, hk_.2⟩ : _ ∧ k_ ≠ g476))) hk) (Kd.R_base ho0)) (fun _ h_ => h_.1)); have HO483 := mk0 (Kd.R_lower (Kd.R_newM (M := fun k_ => (w.heap.size ≤ k_)) ho0 (below_size (by repeat (first | (with_reducible first | exact HB.out | apply ba_ | apply bn_ | apply bd_ | refine below_set ?_ (IsS71.ge HI476.out)) | exact HB.out))) (fun k_ h_ => h_)) (below_size (by repeat (first | (with_reducible first | exact HB.out | apply ba_ | apply bn_ | apply bd_ | refine below_set ?_ (IsS71.ge HI476.out)) | exact HB.out)))); replace HB := mk0 (hb); replace HI476 := mk0 (hi); clear hb hk hi ho0))
 go_ret2
 exact ⟨_, _, by first | rfl | (simp [errW_none, errW_some] <;> rfl) | (simp [*, errW_none, errW_some] <;> rfl), by (with_reducible repeat (first | apply Na_ | apply Nn_ | apply Nd_)); exact Kd.N_mono HO479.out (fun _ hk => ⟨hk.1.1, hk.2⟩), by (with_reducible repeat (first | apply Ra_ | apply Rn_ | apply Rd_)); exact Kd.R_mono HO483.out (fun _ hk => hk.1), by repeat (first | (with_reducible first | exact HB.out | apply ba_ | apply bn_ | apply bd_ | refine below_set ?_ (IsS71.ge HI476.out)) | exact HB.out)⟩
end Go.Proofs.YtlcdffhhimbbmaaDoor.PFnValidLog
