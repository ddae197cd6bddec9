/- The reference's small functions: inRange, allIn, ascends, isIn, allDone, copyInts. -/
import Derived.Test.YtpmfghbjkampkaaDoorPlain
import Derived.Deep.QuietTactic
import Derived.BigQuiet
namespace Go.Proofs.YtpmfghbjkampkaaDoor
set_option linter.unusedVariables false
set_option linter.unusedSimpArgs false
open Go.RowKit Go.Shelf Bits
open Go.Proofs.YtpmfghbjkampkaaDoorW.PrintWords Go.Proofs.YtpmfghbjkampkaaDoorW.PrintLast Go.Proofs.YtpmfghbjkampkaaDoorW.PrintMore
theorem inRange_calls (n lo hi : Int) (w : World) : Calls Tryd.prog 42 #[.int .i64 n, .int .i64 lo, .int .i64 hi] w fun e w' => e = .returned (.bool (inB n lo hi)) ∧ w' = w := by
 by_cases h1 : lo ≤ n
 ·
  have d1 : decide (lo ≤ n) = true := by simpa using h1
  go_enter Tryd.func42, Tryd.ntmps42
  go_wp2
  go_ret
  exact ⟨ret_bool (by rw [inB, decide_eq_true h1, Bool.true_and]), rfl⟩
 ·
  have d1 : decide (lo ≤ n) = false := by simpa using h1
  go_enter Tryd.func42, Tryd.ntmps42
  go_wp2
  go_ret
  exact ⟨ret_bool (by rw [inB, decide_eq_false (by omega : ¬ lo ≤ n), Bool.false_and]), rfl⟩
theorem inRange_is (b : Bool) (n lo hi : Int) (h : Hid (inB n lo hi = b)) (w : World) : Calls Tryd.prog 42 #[.int .i64 n, .int .i64 lo, .int .i64 hi] w fun e w' => e = .returned (.bool b) ∧ w' = w :=
 (inRange_calls n lo hi w).mono fun e w' ⟨he, hw⟩ => ⟨by rw [he, h.out], hw⟩
def ascB (l : List Int) : Bool := (List.range (l.length - 1)).all fun j => decide (l.getD j 0 < l.getD (j + 1) 0)
def allInB (l : List Int) (lo hi : Int) : Bool := l.all fun x => inB x lo hi
def allDoneB (needs done : List Int) : Bool := needs.all fun x => decide (x ∈ done)
theorem all_take {α : Type} {p : α → Bool} {l : List α} (z : α) (h : ∀ j, j < l.length → p (l.getD j z) = true) : l.all p = true := by
 rw [List.all_eq_true]
 intro x hx
 obtain ⟨j, hj, rfl⟩ := List.getElem_of_mem hx
 have := h j hj
 rwa [List.getD_eq_getElem?_getD, List.getElem?_eq_getElem hj] at this
theorem all_not {α : Type} {p : α → Bool} {l : List α} (z : α) {j : Nat} (hj : j < l.length) (h : p (l.getD j z) = false) : l.all p = false := by
 rw [List.all_eq_false]
 refine ⟨l.getD j z, ?_, by rw [h]; simp⟩
 rw [List.getD_eq_getElem?_getD, List.getElem?_eq_getElem hj]
 exact List.getElem_mem _
theorem not_mem_of {l : List Int} {n : Int} (h : ∀ j, j < l.length → l.getD j 0 ≠ n) : ¬ n ∈ l := by
 intro hx
 obtain ⟨j, hj, rfl⟩ := List.getElem_of_mem hx
 exact h j hj (by rw [List.getD_eq_getElem?_getD, List.getElem?_eq_getElem hj]; rfl)
theorem mem_getD {l : List Int} {j : Nat} (hj : j < l.length) : l.getD j 0 ∈ l := by
 rw [List.getD_eq_getElem?_getD, List.getElem?_eq_getElem hj]
 exact List.getElem_mem _
theorem step_lt {k : Nat} {P : Nat → Prop} (h : Hid (∀ j, j < k → P j)) (hk : P k) : Hid (∀ j, j < k + 1 → P j) := Lib.hid fun j hj => by
 rcases Nat.lt_succ_iff_lt_or_eq.1 hj with h1 | h1
 ·
  exact h.out j h1
 ·
  rw [h1]; exact hk
set_option maxHeartbeats 1000000 in
theorem allIn_calls (A : Option Addr) (c : Nat) (l : List Int) (lo hi : Int) (w : World) (hr : (Kd.int .i64).C w A l.length l) :
  Calls Tryd.prog 85 #[.slice A l.length c, .int .i64 lo, .int .i64 hi] w fun e w' => e = .returned (.bool (allInB l lo hi)) ∧ w' = w := by
 have hl := (C_len hr).2
 have HR := Lib.hid hr
 clear hr
 go_enter Tryd.func85, Tryd.ntmps85
 go_wp2
 go_loop [7] (fun i => ∃ (k : Nat), k ≤ l.length ∧ i = .int .i64 k ∧ Hid (∀ j, j < k → inB (l.getD j 0) lo hi = true)) (fun i => l.length - (intOf i).toNat)
 case atStart => exact ⟨0, Nat.zero_le _, rfl, Lib.hid fun j h => absurd h (Nat.not_lt_zero _)⟩
 case round =>
  obtain ⟨k, hk, rfl, HS⟩ := hrel
  by_cases hlt : k < l.length
  ·
   obtain ⟨ad, rfl, hc⟩ := at_num HR.out k hlt
   cases hb : inB (l.getD k 0) lo hi
   ·
    have HB := Lib.hid hb
    have HF := Lib.hid (all_not (p := fun x => inB x lo hi) 0 hlt hb)
    clear hb
    generalize l.getD k 0 = x at hc HB
    go_wp2_with (go_at_call 42; refine (inRange_is _ _ _ _ HB _).mono ?_; rintro e w' ⟨rfl, rfl⟩)
    go_ret
    exact ⟨ret_bool HF.out.symm, rfl⟩
   ·
    have HB := Lib.hid hb
    have HN := step_lt HS hb
    clear hb
    generalize l.getD k 0 = x at hc HB
    go_wp2_with (go_at_call 42; refine (inRange_is _ _ _ _ HB _).mono ?_; rintro e w' ⟨rfl, rfl⟩)
    go_round
    case rel => exact ⟨k + 1, by omega, by go_num, HN⟩
    case measure => simp [intOf]; omega
  ·
   have HF := Lib.hid (all_take (p := fun x => inB x lo hi) (l := l) 0 fun j hj => HS.out j (by omega))
   go_wp2
   go_ret
   exact ⟨ret_bool HF.out.symm, rfl⟩
set_option maxHeartbeats 1000000 in
theorem isIn_calls (A : Option Addr) (c : Nat) (l : List Int) (n : Int) (w : World) (hr : (Kd.int .i64).C w A l.length l) :
  Calls Tryd.prog 68 #[.slice A l.length c, .int .i64 n] w fun e w' => e = .returned (.bool (decide (n ∈ l))) ∧ w' = w := by
 have hl := (C_len hr).2
 have HR := Lib.hid hr
 clear hr
 go_enter Tryd.func68, Tryd.ntmps68
 go_wp2
 go_loop [5] (fun i => ∃ (k : Nat), k ≤ l.length ∧ i = .int .i64 k ∧ Hid (∀ j, j < k → l.getD j 0 ≠ n)) (fun i => l.length - (intOf i).toNat)
 case atStart => exact ⟨0, Nat.zero_le _, rfl, Lib.hid fun j h => absurd h (Nat.not_lt_zero _)⟩
 case round =>
  obtain ⟨k, hk, rfl, HS⟩ := hrel
  by_cases hlt : k < l.length
  ·
   obtain ⟨ad, rfl, hc⟩ := at_num HR.out k hlt
   by_cases hb : l.getD k 0 = n
   ·
    have HF : Hid (decide (n ∈ l) = true) := Lib.hid (decide_eq_true (by rw [← hb]; exact mem_getD hlt))
    have d1 : (l.getD k 0 == n) = true := beq_iff_eq.2 hb
    clear hb
    generalize l.getD k 0 = x at hc d1
    go_wp2
    go_ret
    exact ⟨ret_bool HF.out.symm, rfl⟩
   ·
    have HN := step_lt HS hb
    have d1 : (l.getD k 0 == n) = false := beq_eq_false_iff_ne.2 hb
    clear hb
    generalize l.getD k 0 = x at hc d1
    go_wp2
    go_round
    case rel => exact ⟨k + 1, by omega, by go_num, HN⟩
    case measure => simp [intOf]; omega
  ·
   have HF : Hid (decide (n ∈ l) = false) := Lib.hid (decide_eq_false (not_mem_of fun j hj => HS.out j (by omega)))
   go_wp2
   go_ret
   exact ⟨ret_bool HF.out.symm, rfl⟩
theorem isIn_is (b : Bool) (A : Option Addr) (c : Nat) (l : List Int) (n : Int) (h : Hid (decide (n ∈ l) = b)) (w : World) (hr : (Kd.int .i64).C w A l.length l) : Calls Tryd.prog 68 #[.slice A l.length c, .int .i64 n] w fun e w' => e = .returned (.bool b) ∧ w' = w :=
 (isIn_calls A c l n w hr).mono fun e w' ⟨he, hw⟩ => ⟨by rw [he, h.out], hw⟩
set_option maxHeartbeats 1000000 in
theorem allDone_calls (A : Option Addr) (c : Nat) (l : List Int) (A' : Option Addr) (c' : Nat) (d : List Int) (w : World) (hr : (Kd.int .i64).C w A l.length l) (hr' : (Kd.int .i64).C w A' d.length d) :
  Calls Tryd.prog 69 #[.slice A l.length c, .slice A' d.length c'] w fun e w' => e = .returned (.bool (allDoneB l d)) ∧ w' = w := by
 have hl := (C_len hr).2
 have HR := Lib.hid hr
 have HR' := Lib.hid hr'
 clear hr hr'
 go_enter Tryd.func69, Tryd.ntmps69
 go_wp2
 go_loop [5] (fun i => ∃ (k : Nat), k ≤ l.length ∧ i = .int .i64 k ∧ Hid (∀ j, j < k → decide (l.getD j 0 ∈ d) = true)) (fun i => l.length - (intOf i).toNat)
 case atStart => exact ⟨0, Nat.zero_le _, rfl, Lib.hid fun j h => absurd h (Nat.not_lt_zero _)⟩
 case round =>
  obtain ⟨k, hk, rfl, HS⟩ := hrel
  by_cases hlt : k < l.length
  ·
   obtain ⟨ad, rfl, hc⟩ := at_num HR.out k hlt
   cases hb : decide (l.getD k 0 ∈ d)
   ·
    have HB := Lib.hid hb
    have HF := Lib.hid (all_not (p := fun x => decide (x ∈ d)) 0 hlt hb)
    clear hb
    generalize l.getD k 0 = x at hc HB
    go_wp2_with (go_at_call 68; refine (isIn_is _ _ _ _ _ HB _ HR'.out).mono ?_; rintro e w' ⟨rfl, rfl⟩)
    go_ret
    exact ⟨ret_bool HF.out.symm, rfl⟩
   ·
    have HB := Lib.hid hb
    have HN := step_lt HS hb
    clear hb
    generalize l.getD k 0 = x at hc HB
    go_wp2_with (go_at_call 68; refine (isIn_is _ _ _ _ _ HB _ HR'.out).mono ?_; rintro e w' ⟨rfl, rfl⟩)
    go_round
    case rel => exact ⟨k + 1, by omega, by go_num, HN⟩
    case measure => simp [intOf]; omega
  ·
   have HF := Lib.hid (all_take (p := fun x => decide (x ∈ d)) (l := l) 0 fun j hj => HS.out j (by omega))
   go_wp2
   go_ret
   exact ⟨ret_bool HF.out.symm, rfl⟩
theorem allDone_is (b : Bool) (A : Option Addr) (c : Nat) (l : List Int) (A' : Option Addr) (c' : Nat) (d : List Int) (h : Hid (allDoneB l d = b)) (w : World) (hr : (Kd.int .i64).C w A l.length l) (hr' : (Kd.int .i64).C w A' d.length d) :
  Calls Tryd.prog 69 #[.slice A l.length c, .slice A' d.length c'] w fun e w' => e = .returned (.bool b) ∧ w' = w :=
 (allDone_calls A c l A' c' d w hr hr').mono fun e w' ⟨he, hw⟩ => ⟨by rw [he, h.out], hw⟩
set_option maxHeartbeats 1000000 in
theorem ascends_calls (A : Option Addr) (c : Nat) (l : List Int) (w : World) (hr : (Kd.int .i64).C w A l.length l) :
  Calls Tryd.prog 121 #[.slice A l.length c] w fun e w' => e = .returned (.bool (ascB l)) ∧ Below w.heap.size w w' := by
 have hl := (C_len hr).2
 have HR := Lib.hid hr
 clear hr
 go_enter Tryd.func121, Tryd.ntmps121
 go_wp2
 go_loopw [3] (fun i wr => ∃ (k : Nat), 1 ≤ k ∧ k ≤ max 1 l.length ∧ i = .int .i64 k ∧ Hid (∀ j, j < k - 1 → decide (l.getD j 0 < l.getD (j + 1) 0) = true) ∧ Below w.heap.size w wr) (fun i _ => l.length - (intOf i).toNat)
 case atStart => exact ⟨1, Nat.le_refl _, by omega, rfl, Lib.hid fun j h => absurd h (Nat.not_lt_zero _), Below.refl _ _⟩
 case round =>
  obtain ⟨k, hk0, hk, rfl, HS, HB⟩ := hrel
  by_cases hlt : k < l.length
  ·
   obtain ⟨ad, rfl, hc⟩ := at_num (Kd.C_below HR.out HB) k hlt
   obtain ⟨ad', e, hc'⟩ := at_num (Kd.C_below HR.out HB) (k - 1) (by omega)
   cases e
   have hkk : k - 1 + 1 = k := by omega
   have hkl : k - 1 < l.length := by omega
   have HKK := Lib.hid hkk
   clear hkk
   cases hb : decide (l.getD (k - 1) 0 < l.getD k 0)
   ·
    have HF : Hid (ascB l = false) := Lib.hid (by
     unfold ascB
     rw [List.all_eq_false]
     exact ⟨k - 1, List.mem_range.2 (by omega), by rw [HKK.out, hb]; simp⟩)
    have hle : l.getD k 0 ≤ l.getD (k - 1) 0 := by have := of_decide_eq_false hb; omega
    clear hb
    generalize l.getD k 0 = x at hc hle
    generalize l.getD (k - 1) 0 = y at hc' hle
    go_wp2
    go_quiet (fail)
    go_wp2
    go_ret
    exact ⟨ret_bool HF.out.symm, pw_below_drewN HB _⟩
   ·
    have HN : Hid (∀ j, j < k + 1 - 1 → decide (l.getD j 0 < l.getD (j + 1) 0) = true) := Lib.hid fun j hj => by
     by_cases e : j = k - 1
     ·
      rw [e, HKK.out]; exact hb
     ·
      exact HS.out j (by omega)
    have hle : l.getD (k - 1) 0 < l.getD k 0 := of_decide_eq_true hb
    clear hb
    generalize l.getD k 0 = x at hc hle
    generalize l.getD (k - 1) 0 = y at hc' hle
    go_wp2
    go_quiet (fail)
    go_wp2
    go_roundw
    case rel => exact ⟨k + 1, by omega, by omega, by go_num, HN, pw_below_drewN HB _⟩
    case measure => simp [intOf]; omega
  ·
   have HF : Hid (ascB l = true) := Lib.hid (by
    unfold ascB
    rw [List.all_eq_true]
    exact fun j hj => HS.out j (by have := List.mem_range.1 hj; omega))
   go_wp2
   go_ret
   exact ⟨ret_bool HF.out.symm, HB⟩
end Go.Proofs.YtpmfghbjkampkaaDoor
