/- The reference's valid graphs: validTask, tasksFine, topOrder, validGraph. -/
import Derived.Test.YtpmfghbjkampkaaDoorSpec1
namespace Go.Proofs.YtpmfghbjkampkaaDoor
set_option linter.unusedVariables false
set_option linter.unusedSimpArgs false
open Go.RowKit Go.Shelf Bits
open Go.Proofs.YtpmfghbjkampkaaDoorW.PrintWords Go.Proofs.YtpmfghbjkampkaaDoorW.PrintLast Go.Proofs.YtpmfghbjkampkaaDoorW.PrintMore
theorem allIn_is (b : Bool) (A : Option Addr) (c : Nat) (l : List Int) (lo hi : Int) (h : Hid (allInB l lo hi = b)) (w : World) (hr : (Kd.int .i64).C w A l.length l) :
  Calls Tryd.prog 85 #[.slice A l.length c, .int .i64 lo, .int .i64 hi] w fun e w' => e = .returned (.bool b) ∧ w' = w :=
 (allIn_calls A c l lo hi w hr).mono fun e w' ⟨he, hw⟩ => ⟨by rw [he, h.out], hw⟩
theorem ascends_is (b : Bool) (A : Option Addr) (c : Nat) (l : List Int) (h : Hid (ascB l = b)) (w : World) (hr : (Kd.int .i64).C w A l.length l) :
  Calls Tryd.prog 121 #[.slice A l.length c] w fun e w' => e = .returned (.bool b) ∧ Below w.heap.size w w' :=
 (ascends_calls A c l w hr).mono fun e w' ⟨he, hw⟩ => ⟨by rw [he, h.out], hw⟩
def taskFineB (n : Int) (t : Tk) : Bool := inB t.f0 1 20 && inB t.f2 0 2 && inB t.f3 1 4 && allInB t.f1 0 (n - 1) && ascB t.f1
def tkVal (t : Tk) (v : Value) : Value := .agg #[.int .i64 t.f0, v, .int .i64 t.f2, .int .i64 t.f3]
set_option maxRecDepth 100000 in
set_option maxHeartbeats 2000000 in
theorem validTask_calls (t : Tk) (A : Option Addr) (c : Nat) (n : Int) (hn0 : 0 ≤ n) (hn : n ≤ 9223372036854775807) (w : World) (hC : (Kd.int .i64).C w A t.f1.length t.f1) :
  Calls Tryd.prog 112 #[.agg #[.int .i64 t.f0, .slice A t.f1.length c, .int .i64 t.f2, .int .i64 t.f3], .int .i64 n] w fun e w' => e = .returned (.bool (taskFineB n t)) ∧ Below w.heap.size w w' := by
 cases b0 : inB t.f0 1 20
 ·
  have H0 := Lib.hid b0
  clear b0
  go_enter Tryd.func112, Tryd.ntmps112
  go_wp2_with (first | (go_at_call 42; with_reducible refine (inRange_is _ _ _ _ H0 _).mono ?_; rintro e w' ⟨rfl, rfl⟩))
  go_ret
  exact ⟨ret_bool (by simp only [taskFineB, H0.out]; rfl), below_alloc (Below.refl _ _) _⟩
 ·
  have H0 := Lib.hid b0
  clear b0
  cases b1 : inB t.f2 0 2
  ·
   have H1 := Lib.hid b1
   clear b1
   go_enter Tryd.func112, Tryd.ntmps112
   go_wp2_with (first | (go_at_call 42; with_reducible refine (inRange_is _ _ _ _ H0 _).mono ?_; rintro e w' ⟨rfl, rfl⟩) | (go_at_call 42; with_reducible refine (inRange_is _ _ _ _ H1 _).mono ?_; rintro e w' ⟨rfl, rfl⟩))
   go_ret
   exact ⟨ret_bool (by simp only [taskFineB, H0.out, H1.out]; rfl), below_alloc (Below.refl _ _) _⟩
  ·
   have H1 := Lib.hid b1
   clear b1
   cases b2 : inB t.f3 1 4
   ·
    have H2 := Lib.hid b2
    clear b2
    go_enter Tryd.func112, Tryd.ntmps112
    go_wp2_with (first | (go_at_call 42; with_reducible refine (inRange_is _ _ _ _ H0 _).mono ?_; rintro e w' ⟨rfl, rfl⟩) | (go_at_call 42; with_reducible refine (inRange_is _ _ _ _ H1 _).mono ?_; rintro e w' ⟨rfl, rfl⟩) | (go_at_call 42; with_reducible refine (inRange_is _ _ _ _ H2 _).mono ?_; rintro e w' ⟨rfl, rfl⟩))
    go_ret
    exact ⟨ret_bool (by simp only [taskFineB, H0.out, H1.out, H2.out]; rfl), below_alloc (Below.refl _ _) _⟩
   ·
    have H2 := Lib.hid b2
    clear b2
    cases b3 : allInB t.f1 0 (n - 1)
    ·
     have H3 := Lib.hid b3
     clear b3
     go_enter Tryd.func112, Tryd.ntmps112
     go_wp2_with (first | (go_at_call 42; with_reducible refine (inRange_is _ _ _ _ H0 _).mono ?_; rintro e w' ⟨rfl, rfl⟩) | (go_at_call 42; with_reducible refine (inRange_is _ _ _ _ H1 _).mono ?_; rintro e w' ⟨rfl, rfl⟩) | (go_at_call 42; with_reducible refine (inRange_is _ _ _ _ H2 _).mono ?_; rintro e w' ⟨rfl, rfl⟩) | (go_at_call 85; refine (allIn_is _ _ _ _ _ _ H3 _ (Kd.C_below hC (below_alloc (Below.refl _ _) _))).mono ?_; rintro e w' ⟨rfl, rfl⟩))
     go_ret
     exact ⟨ret_bool (by simp only [taskFineB, H0.out, H1.out, H2.out, H3.out]; rfl), below_alloc (Below.refl _ _) _⟩
    ·
     have H3 := Lib.hid b3
     clear b3
     cases b4 : ascB t.f1
     ·
      have H4 := Lib.hid b4
      clear b4
      go_enter Tryd.func112, Tryd.ntmps112
      go_wp2_with (first | (go_at_call 42; with_reducible refine (inRange_is _ _ _ _ H0 _).mono ?_; rintro e w' ⟨rfl, rfl⟩) | (go_at_call 42; with_reducible refine (inRange_is _ _ _ _ H1 _).mono ?_; rintro e w' ⟨rfl, rfl⟩) | (go_at_call 42; with_reducible refine (inRange_is _ _ _ _ H2 _).mono ?_; rintro e w' ⟨rfl, rfl⟩) | (go_at_call 85; refine (allIn_is _ _ _ _ _ _ H3 _ (Kd.C_below hC (below_alloc (Below.refl _ _) _))).mono ?_; rintro e w' ⟨rfl, rfl⟩) | (go_at_call 121; refine (ascends_is _ _ _ _ H4 _ (Kd.C_below hC (below_alloc (Below.refl _ _) _))).mono ?_; rintro e w1 ⟨rfl, hB1⟩))
      go_ret
      exact ⟨ret_bool (by simp only [taskFineB, H0.out, H1.out, H2.out, H3.out, H4.out]; rfl), below_step (below_alloc (Below.refl _ _) _) hB1⟩
     ·
      have H4 := Lib.hid b4
      clear b4
      go_enter Tryd.func112, Tryd.ntmps112
      go_wp2_with (first | (go_at_call 42; with_reducible refine (inRange_is _ _ _ _ H0 _).mono ?_; rintro e w' ⟨rfl, rfl⟩) | (go_at_call 42; with_reducible refine (inRange_is _ _ _ _ H1 _).mono ?_; rintro e w' ⟨rfl, rfl⟩) | (go_at_call 42; with_reducible refine (inRange_is _ _ _ _ H2 _).mono ?_; rintro e w' ⟨rfl, rfl⟩) | (go_at_call 85; refine (allIn_is _ _ _ _ _ _ H3 _ (Kd.C_below hC (below_alloc (Below.refl _ _) _))).mono ?_; rintro e w' ⟨rfl, rfl⟩) | (go_at_call 121; refine (ascends_is _ _ _ _ H4 _ (Kd.C_below hC (below_alloc (Below.refl _ _) _))).mono ?_; rintro e w1 ⟨rfl, hB1⟩))
      go_ret
      exact ⟨ret_bool (by simp only [taskFineB, H0.out, H1.out, H2.out, H3.out, H4.out]; rfl), below_step (below_alloc (Below.refl _ _) _) hB1⟩
theorem validTask_is (b : Bool) (t : Tk) (A : Option Addr) (c : Nat) (n : Int) (h : Hid (taskFineB n t = b)) (hn0 : 0 ≤ n) (hn : n ≤ 9223372036854775807) (w : World) (hC : (Kd.int .i64).C w A t.f1.length t.f1) :
  Calls Tryd.prog 112 #[.agg #[.int .i64 t.f0, .slice A t.f1.length c, .int .i64 t.f2, .int .i64 t.f3], .int .i64 n] w fun e w' => e = .returned (.bool b) ∧ Below w.heap.size w w' :=
 (validTask_calls t A c n hn0 hn w hC).mono fun e w' ⟨he, hw⟩ => ⟨by rw [he, h.out], hw⟩
def tasksFineB (g : List Tk) : Bool := g.all (taskFineB g.length) && decide (g.length ≤ 8)
set_option maxRecDepth 100000 in
set_option maxHeartbeats 2000000 in
theorem tasksFine_calls (A : Option Addr) (c : Nat) (g : List Tk) (w : World) (hr : kTk.C w A g.length g) :
  Calls Tryd.prog 83 #[.slice A g.length c] w fun e w' => e = .returned (.bool (tasksFineB g)) ∧ Below w.heap.size w w' := by
 have hl := (C_len hr).2
 have HR := Lib.hid hr
 clear hr
 go_enter Tryd.func83, Tryd.ntmps83
 go_wp2
 go_loopw [3] (fun i wr => ∃ (k : Nat), k ≤ g.length ∧ i = .int .i64 k ∧ Hid (∀ j, j < k → taskFineB g.length (g.getD j zTk) = true) ∧ Below w.heap.size w wr) (fun i _ => g.length - (intOf i).toNat)
 case atStart => exact ⟨0, Nat.zero_le _, rfl, Lib.hid fun j h => absurd h (Nat.not_lt_zero _), Below.refl _ _⟩
 case round =>
  obtain ⟨k, hk, rfl, HS, HB⟩ := hrel
  by_cases hlt : k < g.length
  ·
   obtain ⟨ad, A1, c1, rfl, hc0, hc1, hc2, hc3, hl1, hC1⟩ := at_Tk (Kd.C_below HR.out HB) k hlt
   cases hb : taskFineB g.length (rdTk g k)
   ·
    have HX := Lib.hid hb
    have HF : Hid (tasksFineB g = false) := Lib.hid (by unfold tasksFineB; rw [all_not (p := taskFineB g.length) zTk hlt hb]; rfl)
    clear hb
    generalize rdTk g k = t at *
    go_wp2_with (go_at_call 112; refine (validTask_is _ t _ _ _ HX (by omega) (by omega) _ hC1).mono ?_; rintro e w1 ⟨rfl, hB1⟩)
    go_ret
    exact ⟨ret_bool HF.out.symm, below_step HB hB1⟩
   ·
    have HX := Lib.hid hb
    have HN := step_lt HS hb
    clear hb
    generalize rdTk g k = t at *
    go_wp2_with (go_at_call 112; refine (validTask_is _ t _ _ _ HX (by omega) (by omega) _ hC1).mono ?_; rintro e w1 ⟨rfl, hB1⟩)
    go_roundw
    case rel => exact ⟨k + 1, by omega, by go_num, HN, below_step HB hB1⟩
    case measure => simp [intOf]; omega
  ·
   have HF : Hid (tasksFineB g = decide (g.length ≤ 8)) := Lib.hid (by unfold tasksFineB; rw [all_take (p := taskFineB g.length) (l := g) zTk fun j hj => HS.out j (by omega)]; rfl)
   go_wp2
   go_ret
   exact ⟨ret_bool (by rw [HF.out, decide_eq_decide]; omega), HB⟩
theorem tasksFine_is (b : Bool) (A : Option Addr) (c : Nat) (g : List Tk) (h : Hid (tasksFineB g = b)) (w : World) (hr : kTk.C w A g.length g) :
  Calls Tryd.prog 83 #[.slice A g.length c] w fun e w' => e = .returned (.bool b) ∧ Below w.heap.size w w' :=
 (tasksFine_calls A c g w hr).mono fun e w' ⟨he, hw⟩ => ⟨by rw [he, h.out], hw⟩
end Go.Proofs.YtpmfghbjkampkaaDoor
