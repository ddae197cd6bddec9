/- needsOf: the needs of each task as sets. -/
import Derived.Test.YtpmfghbjkampkaaDoorSetOf
namespace Go.Proofs.YtpmfghbjkampkaaDoor
set_option linter.unusedVariables false
set_option linter.unusedSimpArgs false
open Go.RowKit Go.Shelf Bits
open Go.Proofs.YtpmfghbjkampkaaDoorW.PrintWords Go.Proofs.YtpmfghbjkampkaaDoorW.PrintLast Go.Proofs.YtpmfghbjkampkaaDoorW.PrintMore
def NeedsPost (g : List Tk) (w : World) (e : Ending) (w' : World) : Prop :=
 ∃ v, e = .returned (.tuple #[v, .bool (needsN g).isSome]) ∧ (∀ ns, needsN g = some ns → Kd.R (Kd.int .u16) 80 w' w.heap.size (fun _ => True) v (ints ns)) ∧ Below w.heap.size w w'
set_option maxRecDepth 100000 in
set_option maxHeartbeats 2000000 in
theorem needsOf_calls (A : Option Addr) (c : Nat) (g : List Tk) (w : World) (hr : kTk.C w A g.length g) :
  Calls Tryd.prog 109 #[.slice A g.length c] w (NeedsPost g w) := by
 have HR := Lib.hid hr
 obtain ⟨i0, hi, hz0, hz1, hz2⟩ := info_parts infoSet
 clear hr
 by_cases hlen : g.length ≤ 8
 ·
  have HN : Hid (needsN g = needsL g.length g) := Lib.hid (by rw [needsN, if_neg (by omega)])
  go_enter Tryd.func109, Tryd.ntmps109
  go_wp2_with (at_make; refine wpList_make_own _ rfl _ _ 94 rfl w.heap.size 80 i0 (.int .u16 0) 1 Tryd.underlying94 hi hz0 hz1 .i64 .i64 _ g.length rfl rfl rfl (by rw [hz2]; omega) (by simp only [maxLen]; omega) (Nat.le_refl _) ?_; intro w1 hown hg1)
  have HB1 : Below w.heap.size w w1 := (Below.refl _ _).grown hg1 (Nat.le_refl _) (fun k e => by cases e)
  have HO : Kd.R (Kd.int .u16) 80 w1 w.heap.size (fun _ => True) (.slice (some ⟨w.heap.size, 0, none⟩) 0 g.length) (ints []) := Kd.R_of_own hown (fun _ _ => trivial)
  clear hown hg1
  go_loopw [4, 17] (fun out i wr => ∃ (k : Nat) (acc : List Nat), k ≤ g.length ∧ i = .int .i64 k ∧ acc.length = k ∧ Hid (needsN g = (needsL g.length (g.drop k)).map (acc ++ ·)) ∧ Kd.R (Kd.int .u16) 80 wr w.heap.size (fun _ => True) out (ints acc) ∧ Below w.heap.size w wr) (fun _ i _ => g.length - (intOf i).toNat)
  case atStart => exact ⟨0, [], Nat.zero_le _, rfl, rfl, Lib.hid (by rw [HN.out]; simp), HO, HB1⟩
  case round =>
   clear HO HB1 HN
   obtain ⟨k, acc, hk, rfl, hacc, HS, HO, HB⟩ := hrel
   have HA := Lib.hid hacc
   clear hacc
   by_cases hlt : k < g.length
   ·
    obtain ⟨ad, A1, c1, rfl, hc0, hc1, hc2, hc3, hl1, hC1⟩ := at_Tk (Kd.C_below HR.out HB) k hlt
    rw [drop_cons hlt] at HS
    generalize rdTk g k = t at *
    have hlt2 : k < 9 := by omega
    rcases hso : setOfN t.f1 g.length with _ | s
    ·
     have HF := Lib.hid hso
     clear hso
     go_wp2_with (go_at_call 101; refine (setOf_none _ _ _ _ HF (by omega) _ (Kd.C_below hC1 ((Below.refl _ _).alloc (Nat.le_refl _) _))).mono ?_; rintro e w' ⟨rfl, rfl⟩)
     go_ret2
     have hnone : needsN g = none := by rw [HS.out, needsL_bad (.inl HF.out)]; rfl
     refine ⟨_, by rw [hnone]; rfl, fun ns h => ?_, HB.alloc HB.size _⟩
     rw [hnone] at h; cases h
    ·
     have HF := Lib.hid hso
     clear hso
     cases b0 : inB t.f0 1 20
     ·
      have H0 := Lib.hid b0
      clear b0
      go_wp2_with (first | (go_at_call 101; refine (setOf_some _ _ _ _ _ HF (by omega) _ (Kd.C_below hC1 ((Below.refl _ _).alloc (Nat.le_refl _) _))).mono ?_; rintro e w' ⟨rfl, rfl⟩) | (go_at_call 73; with_reducible refine (within_is _ _ _ _ H0 _).mono ?_; rintro e w' ⟨rfl, rfl⟩))
      go_ret2
      have hnone : needsN g = none := by rw [HS.out, needsL_bad (.inr (taskOk_false (.inl H0.out)))]; rfl
      refine ⟨_, by rw [hnone]; rfl, fun ns h => ?_, HB.alloc HB.size _⟩
      rw [hnone] at h; cases h
     ·
      have H0 := Lib.hid b0
      clear b0
      cases b1 : inB t.f2 0 2
      ·
       have H1 := Lib.hid b1
       clear b1
       go_wp2_with (first | (go_at_call 101; refine (setOf_some _ _ _ _ _ HF (by omega) _ (Kd.C_below hC1 ((Below.refl _ _).alloc (Nat.le_refl _) _))).mono ?_; rintro e w' ⟨rfl, rfl⟩) | (go_at_call 73; with_reducible refine (within_is _ _ _ _ H0 _).mono ?_; rintro e w' ⟨rfl, rfl⟩) | (go_at_call 73; with_reducible refine (within_is _ _ _ _ H1 _).mono ?_; rintro e w' ⟨rfl, rfl⟩))
       go_ret2
       have hnone : needsN g = none := by rw [HS.out, needsL_bad (.inr (taskOk_false (.inr (.inl H1.out))))]; rfl
       refine ⟨_, by rw [hnone]; rfl, fun ns h => ?_, HB.alloc HB.size _⟩
       rw [hnone] at h; cases h
      ·
       have H1 := Lib.hid b1
       clear b1
       cases b2 : inB t.f3 1 4
       ·
        have H2 := Lib.hid b2
        clear b2
        go_wp2_with (first | (go_at_call 101; refine (setOf_some _ _ _ _ _ HF (by omega) _ (Kd.C_below hC1 ((Below.refl _ _).alloc (Nat.le_refl _) _))).mono ?_; rintro e w' ⟨rfl, rfl⟩) | (go_at_call 73; with_reducible refine (within_is _ _ _ _ H0 _).mono ?_; rintro e w' ⟨rfl, rfl⟩) | (go_at_call 73; with_reducible refine (within_is _ _ _ _ H1 _).mono ?_; rintro e w' ⟨rfl, rfl⟩) | (go_at_call 73; with_reducible refine (within_is _ _ _ _ H2 _).mono ?_; rintro e w' ⟨rfl, rfl⟩))
        go_ret2
        have hnone : needsN g = none := by rw [HS.out, needsL_bad (.inr (taskOk_false (.inr (.inr H2.out))))]; rfl
        refine ⟨_, by rw [hnone]; rfl, fun ns h => ?_, HB.alloc HB.size _⟩
        rw [hnone] at h; cases h
       ·
        have H2 := Lib.hid b2
        clear b2
        have hal : acc.length < 1000000 := by rw [HA.out]; omega
        go_wp2_with (first | (go_at_call 101; refine (setOf_some _ _ _ _ _ HF (by omega) _ (Kd.C_below hC1 ((Below.refl _ _).alloc (Nat.le_refl _) _))).mono ?_; rintro e w' ⟨rfl, rfl⟩) | (go_at_call 73; with_reducible refine (within_is _ _ _ _ H0 _).mono ?_; rintro e w' ⟨rfl, rfl⟩) | (go_at_call 73; with_reducible refine (within_is _ _ _ _ H1 _).mono ?_; rintro e w' ⟨rfl, rfl⟩) | (go_at_call 73; with_reducible refine (within_is _ _ _ _ H2 _).mono ?_; rintro e w' ⟨rfl, rfl⟩) | (at_builtin; refine ap_set (w0 := w) w.heap.size rfl _ _ rfl _ acc s rfl rfl (by simp) (Kd.R_alloc HO _) (HB.alloc HB.size _) (by have := HB.size; simp; omega) hal ?_; intro v1 w2 hO2 hB2 _ _))
        go_roundw
        case rel => exact ⟨k + 1, acc ++ [s], by omega, by go_num, by rw [List.length_append, HA.out]; rfl, Lib.hid (needsL_step HS.out HF.out (taskOk_true H0.out H1.out H2.out)), hO2, hB2⟩
        case measure => simp [intOf]; omega
   ·
    have hke : g.drop k = [] := List.drop_eq_nil_of_le (by omega)
    rw [hke] at HS
    clear hke
    have hS : needsN g = some acc := by rw [HS.out]; simp [needsL]
    have HS2 := Lib.hid hS
    clear hS HS
    go_wp2
    go_ret2
    refine ⟨_, by rw [HS2.out]; rfl, fun ns h => ?_, HB⟩
    rw [HS2.out] at h; cases h; exact HO
 ·
  have hn : needsN g = none := by rw [needsN, if_pos (by omega)]
  have HN := Lib.hid hn
  clear hn
  go_enter Tryd.func109, Tryd.ntmps109
  go_wp2
  go_ret2
  refine ⟨_, by rw [HN.out]; rfl, fun ns h => ?_, Below.refl _ _⟩
  rw [HN.out] at h; cases h
end Go.Proofs.YtpmfghbjkampkaaDoor
