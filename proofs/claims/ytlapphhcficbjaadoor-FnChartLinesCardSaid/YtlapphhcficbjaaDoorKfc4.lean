/- Parts of the proof, laid as one text by a program of mine. -/
import Derived.Test.YtlapphhcficbjaaDoorKfc2
import Derived.Deep.QuietTactic
import Derived.BigQuiet
import Derived.Test.YtlapphhcficbjaaDoorKfc3
import Derived.StillTailTactics
namespace Go.Proofs.YtlapphhcficbjaaDoor
set_option linter.unusedVariables false
set_option linter.unusedSimpArgs false
open Go.RowKit Go.Shelf Bits
open Go.Proofs.YtlapphhcficbjaaDoorW.PrintWords Go.Proofs.YtlapphhcficbjaaDoorW.PrintLast Go.Proofs.YtlapphhcficbjaaDoorW.PrintMore
theorem inRange_calls (n lo hi : Int) (w : World) : Calls Tryd.prog 84 #[.int .i64 n, .int .i64 lo, .int .i64 hi] w fun e w' => e = .returned (.bool (inB n lo hi)) ∧ w' = w := by
 by_cases h1 : lo ≤ n
 ·
  have d1 : decide (lo ≤ n) = true := by simpa using h1
  go_enter Tryd.func84, Tryd.ntmps84
  go_wp2
  go_ret
  exact ⟨ret_bool (by rw [inB, decide_eq_true h1, Bool.true_and]), rfl⟩
 ·
  have d1 : decide (lo ≤ n) = false := by simpa using h1
  go_enter Tryd.func84, Tryd.ntmps84
  go_wp2
  go_ret
  exact ⟨ret_bool (by rw [inB, decide_eq_false (by omega : ¬ lo ≤ n), Bool.false_and]), rfl⟩
theorem inRange_is (b : Bool) (n lo hi : Int) (h : Hid (inB n lo hi = b)) (w : World) : Calls Tryd.prog 84 #[.int .i64 n, .int .i64 lo, .int .i64 hi] w fun e w' => e = .returned (.bool b) ∧ w' = w :=
 (inRange_calls n lo hi w).mono fun e w' ⟨he, hw⟩ => ⟨by rw [he, h.out], hw⟩
def ascB (l : List Int) : Bool := (List.range (l.length - 1)).all fun j => decide (l.getD j 0 < l.getD (j + 1) 0)
def allInB (l : List Int) (lo hi : Int) : Bool := l.all fun x => inB x lo hi
def allDoneB (needs done : List Int) : Bool := needs.all fun x => decide (x ∈ done)
theorem all_take {α : Type} {p : α → Bool} {l : List α} (z : α) (h : ∀ j, j < l.length → p (l.getD j z) = true) : l.all p = true := by
 rw [List.all_eq_true]
 intro x hx
 obtain ⟨j, hj, rfl⟩ := List.getElem_of_mem hx
 have := h j hj
 rwa [List.getD_eq_getElem?_getD, List.getElem?_eq_getElem hj] at this
theorem all_not {α : Type} {p : α → Bool} {l : List α} (z : α) {j : Nat} (hj : j < l.length) (h : p (l.getD j z) = false) : l.all p = false := by
 rw [List.all_eq_false]
 refine ⟨l.getD j z, ?_, by rw [h]; simp⟩
 rw [List.getD_eq_getElem?_getD, List.getElem?_eq_getElem hj]
 exact List.getElem_mem _
theorem not_mem_of {l : List Int} {n : Int} (h : ∀ j, j < l.length → l.getD j 0 ≠ n) : ¬ n ∈ l := by
 intro hx
 obtain ⟨j, hj, rfl⟩ := List.getElem_of_mem hx
 exact h j hj (by rw [List.getD_eq_getElem?_getD, List.getElem?_eq_getElem hj]; rfl)
theorem mem_getD {l : List Int} {j : Nat} (hj : j < l.length) : l.getD j 0 ∈ l := by
 rw [List.getD_eq_getElem?_getD, List.getElem?_eq_getElem hj]
 exact List.getElem_mem _
theorem step_lt {k : Nat} {P : Nat → Prop} (h : Hid (∀ j, j < k → P j)) (hk : P k) : Hid (∀ j, j < k + 1 → P j) := Lib.hid fun j hj => by
 rcases Nat.lt_succ_iff_lt_or_eq.1 hj with h1 | h1
 ·
  exact h.out j h1
 ·
  rw [h1]; exact hk
set_option maxHeartbeats 1000000 in
theorem allIn_calls (A : Option Addr) (c : Nat) (l : List Int) (lo hi : Int) (w : World) (hr : (Kd.int .i64).C w A l.length l) :
  Calls Tryd.prog 100 #[.slice A l.length c, .int .i64 lo, .int .i64 hi] w fun e w' => e = .returned (.bool (allInB l lo hi)) ∧ w' = w := by
 have hl := (C_len hr).2
 have HR := Lib.hid hr
 clear hr
 go_enter Tryd.func100, Tryd.ntmps100
 go_wp2
 go_loop [7] (fun i => ∃ (k : Nat), k ≤ l.length ∧ i = .int .i64 k ∧ Hid (∀ j, j < k → inB (l.getD j 0) lo hi = true)) (fun i => l.length - (intOf i).toNat)
 case atStart => exact ⟨0, Nat.zero_le _, rfl, Lib.hid fun j h => absurd h (Nat.not_lt_zero _)⟩
 case round =>
  obtain ⟨k, hk, rfl, HS⟩ := hrel
  by_cases hlt : k < l.length
  ·
   obtain ⟨ad, rfl, hc⟩ := at_num HR.out k hlt
   cases hb : inB (l.getD k 0) lo hi
   ·
    have HB := Lib.hid hb
    have HF := Lib.hid (all_not (p := fun x => inB x lo hi) 0 hlt hb)
    clear hb
    generalize l.getD k 0 = x at hc HB
    go_wp2_with (go_at_call 84; refine (inRange_is _ _ _ _ HB _).mono ?_; rintro e w' ⟨rfl, rfl⟩)
    go_ret
    exact ⟨ret_bool HF.out.symm, rfl⟩
   ·
    have HB := Lib.hid hb
    have HN := step_lt HS hb
    clear hb
    generalize l.getD k 0 = x at hc HB
    go_wp2_with (go_at_call 84; refine (inRange_is _ _ _ _ HB _).mono ?_; rintro e w' ⟨rfl, rfl⟩)
    go_round
    case rel => exact ⟨k + 1, by omega, by go_num, HN⟩
    case measure => simp [intOf]; omega
  ·
   have HF := Lib.hid (all_take (p := fun x => inB x lo hi) (l := l) 0 fun j hj => HS.out j (by omega))
   go_wp2
   go_ret
   exact ⟨ret_bool HF.out.symm, rfl⟩
set_option maxHeartbeats 1000000 in
theorem isIn_calls (A : Option Addr) (c : Nat) (l : List Int) (n : Int) (w : World) (hr : (Kd.int .i64).C w A l.length l) :
  Calls Tryd.prog 46 #[.slice A l.length c, .int .i64 n] w fun e w' => e = .returned (.bool (decide (n ∈ l))) ∧ w' = w := by
 have hl := (C_len hr).2
 have HR := Lib.hid hr
 clear hr
 go_enter Tryd.func46, Tryd.ntmps46
 go_wp2
 go_loop [5] (fun i => ∃ (k : Nat), k ≤ l.length ∧ i = .int .i64 k ∧ Hid (∀ j, j < k → l.getD j 0 ≠ n)) (fun i => l.length - (intOf i).toNat)
 case atStart => exact ⟨0, Nat.zero_le _, rfl, Lib.hid fun j h => absurd h (Nat.not_lt_zero _)⟩
 case round =>
  obtain ⟨k, hk, rfl, HS⟩ := hrel
  by_cases hlt : k < l.length
  ·
   obtain ⟨ad, rfl, hc⟩ := at_num HR.out k hlt
   by_cases hb : l.getD k 0 = n
   ·
    have HF : Hid (decide (n ∈ l) = true) := Lib.hid (decide_eq_true (by rw [← hb]; exact mem_getD hlt))
    have d1 : (l.getD k 0 == n) = true := beq_iff_eq.2 hb
    clear hb
    generalize l.getD k 0 = x at hc d1
    go_wp2
    go_ret
    exact ⟨ret_bool HF.out.symm, rfl⟩
   ·
    have HN := step_lt HS hb
    have d1 : (l.getD k 0 == n) = false := beq_eq_false_iff_ne.2 hb
    clear hb
    generalize l.getD k 0 = x at hc d1
    go_wp2
    go_round
    case rel => exact ⟨k + 1, by omega, by go_num, HN⟩
    case measure => simp [intOf]; omega
  ·
   have HF : Hid (decide (n ∈ l) = false) := Lib.hid (decide_eq_false (not_mem_of fun j hj => HS.out j (by omega)))
   go_wp2
   go_ret
   exact ⟨ret_bool HF.out.symm, rfl⟩
theorem isIn_is (b : Bool) (A : Option Addr) (c : Nat) (l : List Int) (n : Int) (h : Hid (decide (n ∈ l) = b)) (w : World) (hr : (Kd.int .i64).C w A l.length l) : Calls Tryd.prog 46 #[.slice A l.length c, .int .i64 n] w fun e w' => e = .returned (.bool b) ∧ w' = w :=
 (isIn_calls A c l n w hr).mono fun e w' ⟨he, hw⟩ => ⟨by rw [he, h.out], hw⟩
set_option maxHeartbeats 1000000 in
theorem allDone_calls (A : Option Addr) (c : Nat) (l : List Int) (A' : Option Addr) (c' : Nat) (d : List Int) (w : World) (hr : (Kd.int .i64).C w A l.length l) (hr' : (Kd.int .i64).C w A' d.length d) :
  Calls Tryd.prog 47 #[.slice A l.length c, .slice A' d.length c'] w fun e w' => e = .returned (.bool (allDoneB l d)) ∧ w' = w := by
 have hl := (C_len hr).2
 have HR := Lib.hid hr
 have HR' := Lib.hid hr'
 clear hr hr'
 go_enter Tryd.func47, Tryd.ntmps47
 go_wp2
 go_loop [5] (fun i => ∃ (k : Nat), k ≤ l.length ∧ i = .int .i64 k ∧ Hid (∀ j, j < k → decide (l.getD j 0 ∈ d) = true)) (fun i => l.length - (intOf i).toNat)
 case atStart => exact ⟨0, Nat.zero_le _, rfl, Lib.hid fun j h => absurd h (Nat.not_lt_zero _)⟩
 case round =>
  obtain ⟨k, hk, rfl, HS⟩ := hrel
  by_cases hlt : k < l.length
  ·
   obtain ⟨ad, rfl, hc⟩ := at_num HR.out k hlt
   cases hb : decide (l.getD k 0 ∈ d)
   ·
    have HB := Lib.hid hb
    have HF := Lib.hid (all_not (p := fun x => decide (x ∈ d)) 0 hlt hb)
    clear hb
    generalize l.getD k 0 = x at hc HB
    go_wp2_with (go_at_call 46; refine (isIn_is _ _ _ _ _ HB _ HR'.out).mono ?_; rintro e w' ⟨rfl, rfl⟩)
    go_ret
    exact ⟨ret_bool HF.out.symm, rfl⟩
   ·
    have HB := Lib.hid hb
    have HN := step_lt HS hb
    clear hb
    generalize l.getD k 0 = x at hc HB
    go_wp2_with (go_at_call 46; refine (isIn_is _ _ _ _ _ HB _ HR'.out).mono ?_; rintro e w' ⟨rfl, rfl⟩)
    go_round
    case rel => exact ⟨k + 1, by omega, by go_num, HN⟩
    case measure => simp [intOf]; omega
  ·
   have HF := Lib.hid (all_take (p := fun x => decide (x ∈ d)) (l := l) 0 fun j hj => HS.out j (by omega))
   go_wp2
   go_ret
   exact ⟨ret_bool HF.out.symm, rfl⟩
theorem allDone_is (b : Bool) (A : Option Addr) (c : Nat) (l : List Int) (A' : Option Addr) (c' : Nat) (d : List Int) (h : Hid (allDoneB l d = b)) (w : World) (hr : (Kd.int .i64).C w A l.length l) (hr' : (Kd.int .i64).C w A' d.length d) :
  Calls Tryd.prog 47 #[.slice A l.length c, .slice A' d.length c'] w fun e w' => e = .returned (.bool b) ∧ w' = w :=
 (allDone_calls A c l A' c' d w hr hr').mono fun e w' ⟨he, hw⟩ => ⟨by rw [he, h.out], hw⟩
set_option maxHeartbeats 1000000 in
theorem ascends_calls (A : Option Addr) (c : Nat) (l : List Int) (w : World) (hr : (Kd.int .i64).C w A l.length l) :
  Calls Tryd.prog 126 #[.slice A l.length c] w fun e w' => e = .returned (.bool (ascB l)) ∧ Below w.heap.size w w' := by
 have hl := (C_len hr).2
 have HR := Lib.hid hr
 clear hr
 go_enter Tryd.func126, Tryd.ntmps126
 go_wp2
 go_loopw [3] (fun i wr => ∃ (k : Nat), 1 ≤ k ∧ k ≤ max 1 l.length ∧ i = .int .i64 k ∧ Hid (∀ j, j < k - 1 → decide (l.getD j 0 < l.getD (j + 1) 0) = true) ∧ Below w.heap.size w wr) (fun i _ => l.length - (intOf i).toNat)
 case atStart => exact ⟨1, Nat.le_refl _, by omega, rfl, Lib.hid fun j h => absurd h (Nat.not_lt_zero _), Below.refl _ _⟩
 case round =>
  obtain ⟨k, hk0, hk, rfl, HS, HB⟩ := hrel
  by_cases hlt : k < l.length
  ·
   obtain ⟨ad, rfl, hc⟩ := at_num (Kd.C_below HR.out HB) k hlt
   obtain ⟨ad', e, hc'⟩ := at_num (Kd.C_below HR.out HB) (k - 1) (by omega)
   cases e
   have hkk : k - 1 + 1 = k := by omega
   have hkl : k - 1 < l.length := by omega
   have HKK := Lib.hid hkk
   clear hkk
   cases hb : decide (l.getD (k - 1) 0 < l.getD k 0)
   ·
    have HF : Hid (ascB l = false) := Lib.hid (by
     unfold ascB
     rw [List.all_eq_false]
     exact ⟨k - 1, List.mem_range.2 (by omega), by rw [HKK.out, hb]; simp⟩)
    have hle : l.getD k 0 ≤ l.getD (k - 1) 0 := by have := of_decide_eq_false hb; omega
    clear hb
    generalize l.getD k 0 = x at hc hle
    generalize l.getD (k - 1) 0 = y at hc' hle
    go_wp2
    go_quiet (fail)
    go_wp2
    go_ret
    exact ⟨ret_bool HF.out.symm, pw_below_drewN HB _⟩
   ·
    have HN : Hid (∀ j, j < k + 1 - 1 → decide (l.getD j 0 < l.getD (j + 1) 0) = true) := Lib.hid fun j hj => by
     by_cases e : j = k - 1
     ·
      rw [e, HKK.out]; exact hb
     ·
      exact HS.out j (by omega)
    have hle : l.getD (k - 1) 0 < l.getD k 0 := of_decide_eq_true hb
    clear hb
    generalize l.getD k 0 = x at hc hle
    generalize l.getD (k - 1) 0 = y at hc' hle
    go_wp2
    go_quiet (fail)
    go_wp2
    go_roundw
    case rel => exact ⟨k + 1, by omega, by omega, by go_num, HN, pw_below_drewN HB _⟩
    case measure => simp [intOf]; omega
  ·
   have HF : Hid (ascB l = true) := Lib.hid (by
    unfold ascB
    rw [List.all_eq_true]
    exact fun j hj => HS.out j (by have := List.mem_range.1 hj; omega))
   go_wp2
   go_ret
   exact ⟨ret_bool HF.out.symm, HB⟩
end Go.Proofs.YtlapphhcficbjaaDoor

namespace Go.Proofs.YtlapphhcficbjaaDoor
set_option linter.unusedVariables false
set_option linter.unusedSimpArgs false
open Go.RowKit Go.Shelf Bits
open Go.Proofs.YtlapphhcficbjaaDoorW.PrintWords Go.Proofs.YtlapphhcficbjaaDoorW.PrintLast Go.Proofs.YtlapphhcficbjaaDoorW.PrintMore
theorem list_ext0 {a b : List Int} (hl : a.length = b.length) (h : ∀ j, j < a.length → a.getD j 0 = b.getD j 0) : a = b := by
 apply List.ext_getElem hl
 intro j h1 h2
 have := h j h1
 rw [List.getD_eq_getElem?_getD, List.getD_eq_getElem?_getD, List.getElem?_eq_getElem h1, List.getElem?_eq_getElem h2] at this
 exact this
set_option maxRecDepth 100000 in
set_option maxHeartbeats 2000000 in
theorem equalInts_calls (A : Option Addr) (c : Nat) (a : List Int) (B : Option Addr) (d : Nat) (b : List Int) (w : World) (hr : (Kd.int .i64).C w A a.length a) (hr' : (Kd.int .i64).C w B b.length b) :
  Calls Tryd.prog 13 #[.slice A a.length c, .slice B b.length d] w fun e w' => e = .returned (.bool (decide (a = b))) ∧ Below w.heap.size w w' := by
 have HR := Lib.hid hr
 have HR' := Lib.hid hr'
 have hla := (C_len hr).2
 have hlb := (C_len hr').2
 clear hr hr'
 by_cases hl : a.length = b.length
 ·
  have dl : ((a.length : Int) != (b.length : Int)) = false := by rw [bne_eq_false_iff_eq]; omega
  have HL := Lib.hid hl
  clear hl
  go_enter Tryd.func13, Tryd.ntmps13
  go_wp2
  go_loopw [5] (fun i wr => ∃ j, j ≤ a.length ∧ i = .int .i64 (j : Nat) ∧ Hid (∀ q, q < j → a.getD q 0 = b.getD q 0) ∧ Below w.heap.size w wr) (fun i _ => a.length - (intOf i).toNat)
  case atStart => exact ⟨0, Nat.zero_le _, rfl, Lib.hid fun j h => absurd h (Nat.not_lt_zero _), Below.refl _ _⟩
  case round =>
   obtain ⟨j, hj, rfl, HS, hB⟩ := hrel
   by_cases hjl : j < a.length
   ·
    have hjj : decide ((j : Int) < (a.length : Int)) = true := decide_eq_true (by omega)
    have hjb : (j : Int) < (b.length : Int) := by have := HL.out; omega
    have hja : (j : Int) < (a.length : Int) := by omega
    obtain ⟨ad, rfl, cx⟩ := at_num (Kd.C_below HR.out hB) j hjl
    obtain ⟨bd, rfl, cy⟩ := at_num (Kd.C_below HR'.out hB) j (by omega)
    by_cases he : a.getD j 0 = b.getD j 0
    ·
     have dn : (a.getD j 0 != b.getD j 0) = false := by rw [bne_eq_false_iff_eq]; exact he
     have HN := step_lt HS he
     clear he
     generalize a.getD j 0 = x at cx dn
     generalize b.getD j 0 = y at cy dn
     have HB := Lib.hid hB
     go_wp2
     go_quiet (fail)
     go_wp2
     go_roundw
     case rel => exact ⟨j + 1, by omega, by go_num, HN, pw_below_drewN HB.out _⟩
     case measure => simp [intOf]; omega
    ·
     have dn : (a.getD j 0 != b.getD j 0) = true := by rw [bne_iff_ne]; exact he
     have HF : Hid (decide (a = b) = false) := Lib.hid (decide_eq_false fun e => he (by rw [e]))
     clear he
     generalize a.getD j 0 = x at cx dn
     generalize b.getD j 0 = y at cy dn
     have HB := Lib.hid hB
     go_wp2
     go_quiet (fail)
     go_wp2
     go_ret
     exact ⟨ret_bool HF.out.symm, pw_below_drewN HB.out _⟩
   ·
    obtain rfl : j = a.length := by omega
    have hjj : decide ((a.length : Int) < (a.length : Int)) = false := decide_eq_false (by omega)
    have HF : Hid (decide (a = b) = true) := Lib.hid (decide_eq_true (list_ext0 HL.out fun q hq => HS.out q hq))
    go_wp2
    go_ret
    exact ⟨ret_bool HF.out.symm, hB⟩
 ·
  have dl : ((a.length : Int) != (b.length : Int)) = true := by rw [bne_iff_ne]; omega
  have HF : Hid (decide (a = b) = false) := Lib.hid (decide_eq_false fun e => hl (by rw [e]))
  clear hl
  go_enter Tryd.func13, Tryd.ntmps13
  go_wp2
  go_ret
  exact ⟨ret_bool HF.out.symm, Below.refl _ _⟩
theorem equalInts_is (r : Bool) (A : Option Addr) (c : Nat) (a : List Int) (B : Option Addr) (d : Nat) (b : List Int) (h : Hid (decide (a = b) = r)) (w : World) (hr : (Kd.int .i64).C w A a.length a) (hr' : (Kd.int .i64).C w B b.length b) :
  Calls Tryd.prog 13 #[.slice A a.length c, .slice B b.length d] w fun e w' => e = .returned (.bool r) ∧ Below w.heap.size w w' :=
 (equalInts_calls A c a B d b w hr hr').mono fun e w' ⟨he, hw⟩ => ⟨by rw [he, h.out], hw⟩
theorem equalInts_same (A : Option Addr) (c : Nat) (a : List Int) (B : Option Addr) (d : Nat) (w : World) (hr : (Kd.int .i64).C w A a.length a) (hr' : (Kd.int .i64).C w B a.length a) :
  Calls Tryd.prog 13 #[.slice A a.length c, .slice B a.length d] w fun e w' => e = .returned (.bool true) ∧ Below w.heap.size w w' :=
 (equalInts_calls A c a B d a w hr hr').mono fun e w' ⟨he, hw⟩ => ⟨by rw [he, decide_eq_true rfl], hw⟩
end Go.Proofs.YtlapphhcficbjaaDoor

namespace Go.Proofs.YtlapphhcficbjaaDoor
set_option linter.unusedVariables false
set_option linter.unusedSimpArgs false
open Go.RowKit Go.Shelf Bits
theorem needsL_all (n : Nat) : ∀ (l : List Tk) (ns : List Nat), needsL n l = some ns → l.length = ns.length ∧ ∀ i, i < l.length → taskOk (l.getD i zTk) = true ∧ setOfN (l.getD i zTk).f1 n = some (ns.getD i 0)
 | [], ns, h => by
  simp only [needsL, Option.some.injEq] at h
  subst h
  exact ⟨rfl, fun i hi => absurd hi (Nat.not_lt_zero _)⟩
 | t :: r, ns, h => by
  cases h1 : setOfN t.f1 n with
  | none => rw [needsL_bad (Or.inl h1)] at h; cases h
  | some s =>
   cases h2 : taskOk t with
   | false => rw [needsL_bad (Or.inr h2)] at h; cases h
   | true =>
    rw [needsL_good h1 h2] at h
    obtain ⟨ms, h3, rfl⟩ := Option.map_eq_some_iff.1 h
    obtain ⟨h4, h5⟩ := needsL_all n r ms h3
    refine ⟨by simp [h4], fun i hi => ?_⟩
    cases i with
    | zero => exact ⟨h2, h1⟩
    | succ i => exact h5 i (by simpa using hi)
theorem graphN_all {g : List Tk} {ns : List Nat} (h : graphN g = some ns) : g.length ≤ 8 ∧ ns.length = g.length ∧ ∀ i, i < g.length → taskOk (rdTk g i) = true ∧ setOfN (rdTk g i).f1 g.length = some (ns.getD i 0) := by
 obtain ⟨h1, _, h3, h4⟩ := graphN_some h
 have h5 : needsL g.length g = some ns := by
  unfold needsN at h1
  rwa [if_neg (by omega)] at h1
 exact ⟨h3, h4, (needsL_all _ _ _ h5).2⟩
theorem graphN_time {g : List Tk} {ns : List Nat} (h : graphN g = some ns) (i : Nat) : 0 ≤ (rdTk g i).f0 ∧ (rdTk g i).f0 ≤ 20 := by
 by_cases hi : i < g.length
 ·
  have h1 := ((graphN_all h).2.2 i hi).1
  unfold taskOk at h1
  simp only [Bool.and_eq_true] at h1
  have := inB_true.1 h1.1.1
  omega
 ·
  simp [rdTk, List.getD_eq_getElem?_getD, List.getElem?_eq_none (Nat.le_of_not_lt hi), zTk]
theorem graphN_need_lt {g : List Tk} {ns : List Nat} (h : graphN g = some ns) (i : Nat) : ns.getD i 0 < 2 ^ g.length := by
 by_cases hi : i < g.length
 ·
  exact setOfN_lt ((graphN_all h).2.2 i hi).2
 ·
  have := (graphN_all h).2.1
  rw [List.getD_eq_getElem?_getD, List.getElem?_eq_none (by omega)]
  exact Nat.two_pow_pos _
theorem graphN_need_u16 {g : List Tk} {ns : List Nat} (h : graphN g = some ns) (i : Nat) : ns.getD i 0 < 65536 :=
 Nat.lt_of_lt_of_le (graphN_need_lt h i) (pow_le_u16 (by have := (graphN_all h).1; omega))
end Go.Proofs.YtlapphhcficbjaaDoor

namespace Go.Proofs.YtlapphhcficbjaaDoor
set_option linter.unusedVariables false
set_option linter.unusedSimpArgs false
open Go.RowKit Go.Shelf Bits
open Go.Proofs.YtlapphhcficbjaaDoorW.PrintWords Go.Proofs.YtlapphhcficbjaaDoorW.PrintLast Go.Proofs.YtlapphhcficbjaaDoorW.PrintMore
attribute [local go_sem] Oper.semAt_some
def zeroI (n : Nat) : Array Value := ((List.replicate n (0 : Int)).map (Value.int .i64)).toArray
theorem madeI (n : Nat) : madeCells #[Value.int .i64 0] n = zeroI n := by
 unfold zeroI
 apply Array.ext
 ·
  simp [madeCells]
 ·
  intro i h1 h2
  simp [madeCells, Nat.mod_one]
theorem run_makeI (n : Nat) (hn : n ≤ 1000000) (W : World) : (Instr.makeSlice 24 (Value.int IntKind.i64 (n : Int)) (Value.int IntKind.i64 (n : Int))).run Tryd.prog W = .ok (.slice (some ⟨W.heap.size, 0, none⟩) n n) (W.alloc (.cells (zeroI n) 3)) := by
 obtain ⟨i0, hi, hz0, hz1, hz2⟩ := info_parts infoInt
 rw [← madeI]
 have := run_make (P := Tryd.prog) W 24 3 i0 (.int .i64 0) Tryd.underlying24 hi hz0 .i64 .i64 (n : Int) (n : Int) (by omega) (by omega) (by rw [hz2]; omega) (by omega)
 simpa [hz1, Value.cells] using this
def tailN (g : List Tk) (ns : List Nat) : List Int := tailsL g ns (ordN ns ns.length).1 (backL (ordN ns ns.length).1.length (ordN ns ns.length).1.length)
set_option maxRecDepth 100000 in
set_option maxHeartbeats 8000000 in
theorem tails_calls (C : Nat) (g : List Tk) (ns : List Nat) (hgr : graphN g = some ns) (w : World) (hG : IsGraph w C g ns) (hT : Tab w) :
  Calls Tryd.prog 117 #[.pointer (some ⟨C, 0, none⟩)] w fun e w' => ∃ v, e = .returned v ∧ Kd.R (Kd.int .i64) 3 w' w.heap.size (fun _ => True) v (tailN g ns) ∧ Below w.heap.size w w' := by
 obtain ⟨hn, hd, hlen, hnl⟩ := graphN_some hgr
 have HGR := Lib.hid hgr
 have HN := Lib.hid hn
 have HNL := Lib.hid hnl
 have HG := Lib.hid hG
 obtain ⟨Ag, cg, An, cn, Ao, co, vb, va, h1, h2, h3, h4⟩ := hG
 have hCl := blk_lt h1
 have cC := blk_cell h1 2
 simp at cC
 have HH := Lib.hid (And.intro h1 (And.intro h2 (And.intro h3 h4)))
 have hmk := run_makeI g.length (by omega)
 have hol := (ordN_lt ns ns.length).2.2
 have cC3 : ∀ o1 o2 o3 : Obj, (((w.alloc o1).alloc o2).alloc o3).cell? ⟨C, 2, none⟩ = some (.slice Ao (ordN ns ns.length).1.length co) := fun o1 o2 o3 => pw_cell_below ((((Below.refl _ w).alloc (Nat.le_refl _) o1).alloc (by simp) o2).alloc (by simp; omega) o3) cC
 clear h1 h2 h3 h4 hgr hn hd hnl cC
 refine calls_of_wp_marks Tryd.func117 rfl ?_
 simp only [Tryd.ntmps117, List.size_toArray, List.length_cons, List.length_nil, Nat.reduceAdd, Nat.reduceSub, Array.replicate_succ, Array.replicate_zero, List.push_toArray, List.append_toArray, List.nil_append, List.cons_append]
 go_wp2_with (first | (go_at_call 51; refine (size_calls _ C g ns (HG.out.below ((Below.refl _ _).alloc (Nat.le_refl _) _))).mono ?_; rintro e w' ⟨rfl, rfl⟩) | (go_at_call 134; refine (backward_calls _ _ _ _).mono ?_; rintro e w' ⟨rfl, rfl⟩))
 obtain ⟨X, hXe⟩ : ∃ X, X = w.heap.size := ⟨_, rfl⟩
 obtain ⟨m, hm⟩ : ∃ m, m = (ordN ns ns.length).1.length := ⟨_, rfl⟩
 obtain ⟨W0, hW0⟩ : ∃ W0, W0 = (((w.alloc (.cells #[.pointer (some ⟨C, 0, none⟩)] 65)).alloc (.cells (zeroI g.length) 3)).alloc (.cells #[.slice (some ⟨w.heap.size + 1, 0, none⟩) g.length g.length] 24)).alloc (.cells #[.slice Ao (ordN ns ns.length).1.length co] 24) := ⟨_, rfl⟩
 have hB0 : Below w.heap.size w W0 := by rw [hW0]; exact ((((Below.refl _ w).alloc (Nat.le_refl _) _).alloc (by simp) _).alloc (by simp; omega) _).alloc (by simp; omega) _
 have hnl8 : ns.length ≤ 8 := by have := HNL.out; omega
 have hz0 : W0.heap.size = w.heap.size + 1 + 1 + 1 + 1 := by rw [hW0]; simp
 have hbB : Boxed W0 (w.heap.size + 1 + 1 + 1) 24 (.slice Ao (ordN ns ns.length).1.length co) := by rw [hW0]; have := Boxed.new (((w.alloc (.cells #[.pointer (some ⟨C, 0, none⟩)] 65)).alloc (.cells (zeroI g.length) 3)).alloc (.cells #[.slice (some ⟨w.heap.size + 1, 0, none⟩) g.length g.length] 24)) 24 (.slice Ao (ordN ns ns.length).1.length co); rwa [World.size_alloc, World.size_alloc, World.size_alloc] at this
 have hTH : THeap w (w.heap.size + 4) g.length C w.heap.size (w.heap.size + 1 + 1) (w.heap.size + 1) (List.replicate g.length 0) W0 := by
  refine ⟨?_, ?_, ?_, hB0, by rw [hz0]; omega⟩ <;> rw [hW0]
  ·
   exact (((Boxed.new w _ _).alloc _).alloc _).alloc _
  ·
   have := (Boxed.new ((w.alloc (.cells #[.pointer (some ⟨C, 0, none⟩)] 65)).alloc (.cells (zeroI g.length) 3)) 24 (.slice (some ⟨w.heap.size + 1, 0, none⟩) g.length g.length)).alloc (.cells #[.slice Ao (ordN ns ns.length).1.length co] 24)
   rwa [World.size_alloc, World.size_alloc] at this
  ·
   have h0 : (w.alloc (.cells #[.pointer (some ⟨C, 0, none⟩)] 65)).heap.size = w.heap.size + 1 := by simp
   have := World.alloc_heap_new (w.alloc (.cells #[.pointer (some ⟨C, 0, none⟩)] 65)) (.cells (zeroI g.length) 3)
   rw [h0] at this
   exact (Below.heap_alloc _ _ _ (by simp)).trans ((Below.heap_alloc _ _ _ (by simp)).trans this)
 rw [← hW0]
 clear hW0 cC3 hmk
 have hord := (ordN_lt ns ns.length).2.1
 have HORD := Lib.hid hord
 have hCo : (Kd.int .i64).C W0 Ao (ints (ordN ns ns.length).1).length (ints (ordN ns ns.length).1) := by rw [ints_length]; exact Kd.C_below HH.out.2.2.2 hB0
 obtain ⟨Aq, hA', hAl⟩ : ∃ Aq : Option Addr, (∀ ad, Ao = some ad → 0 < (ints (ordN ns ns.length).1).length → Aq = some ad) ∧ (∀ ad, Aq = some ad → ad.block < w.heap.size) := by
  refine ⟨if (ordN ns ns.length).1.length = 0 then none else Ao, fun ad e hl => ?_, fun ad e => ?_⟩
  ·
   rw [ints_length] at hl
   rw [if_neg (by omega)]
   exact e
  ·
   split at e
   ·
    cases e
   ·
    obtain ⟨ad', e', hc⟩ := at_num HH.out.2.2.2 0 (by omega)
    rw [e] at e'
    cases e'
    have := World.block_lt_of_cell? w _ hc
    have e2 : (ad.add 0).block = ad.block := by unfold Addr.add; split <;> rfl
    rwa [e2] at this
 have htl := hT.lt
 clear hord hXe hm
 have hil := ints_length (ordN ns ns.length).1
 refine wp_rangeBack (w.heap.size + 1 + 1 + 1) Ao Aq co (ints (ordN ns ns.length).1) hA' (by rw [hil]; omega) rfl (by rw [hz0]; omega) (by rw [hil]; exact hbB.cell) hCo (fun ad e => by have := hAl ad e; omega)
  (fun pre W => THeap w (w.heap.size + 4) g.length C w.heap.size (w.heap.size + 1 + 1) (w.heap.size + 1) (tailsL g ns (ordN ns ns.length).1 (pre.map (·.1))) W) (fun _ _ _ => False)
  (THeap.own _ (by rw [hz0]; omega)) (fun _ _ _ _ _ h _ _ => h) hTH
  (fun x a' W' => ∃ (t : Array Value) (b : Nat), a' = { tmps := t, defers := [] } ∧ t.size = 53 ∧ t.getD 1 undef = .pointer (some ⟨w.heap.size, 0, none⟩) ∧ t.getD 3 undef = .pointer (some ⟨w.heap.size + 1 + 1, 0, none⟩) ∧ t.getD 5 undef = .pointer (some ⟨b, 0, none⟩) ∧ W0.heap.size ≤ b ∧ Boxed W' b 3 (.int .i64 ((ints (ordN ns ns.length).1).getD x.1 0)))
  (fun x a' s W1 W2 row h hg hr => by
   obtain ⟨t, b, q1, q2, q3, q4, q5, q6, q7⟩ := h
   exact ⟨t, b, q1, q2, q3, q4, q5, q6, (Own.from (boxed_own b 3 (fun _ : Unit => _)) _) () W1 W2 row q7 hg hr⟩) ?assign ?body ?done ?stop
 case stop => exact fun _ _ _ _ _ h _ => h.elim
 case assign =>
  intro l pre x W K hI hK
  generalize (ints (ordN ns ns.length).1).getD x.1 0 = z at hK ⊢
  have hWs := hI.hB.size
  gi_wp2
  exact hK _ _ ((KeepsOthers.alloc _ _).from _) (KeepB.below ((Below.refl _ _).alloc (Nat.le_refl _) _)) (hI.alloc _) ⟨_, W.heap.size, rfl, rfl, rfl, rfl, rfl, by have := hI.hn; omega, Boxed.new _ _ _⟩
 case body =>
  rintro l pre x a' W hlW ⟨lr, hlr⟩ hI ⟨t, b, rfl, ht, t1, t3, t5, hb1, hbx⟩ hlen'
  obtain ⟨u, rfl⟩ : ∃ u : Nat → Value, t = #[u 0, u 1, u 2, u 3, u 4, u 5, u 6, u 7, u 8, u 9, u 10, u 11, u 12, u 13, u 14, u 15, u 16, u 17, u 18, u 19, u 20, u 21, u 22, u 23, u 24, u 25, u 26, u 27, u 28, u 29, u 30, u 31, u 32, u 33, u 34, u 35, u 36, u 37, u 38, u 39, u 40, u 41, u 42, u 43, u 44, u 45, u 46, u 47, u 48, u 49, u 50, u 51, u 52] := ⟨fun i => t.getD i undef, (arr_of_size t 53 ht).trans rfl⟩
  replace t1 : u 1 = _ := t1
  replace t3 : u 3 = _ := t3
  replace t5 : u 5 = _ := t5
  clear ht
  rw [ints_getD] at hbx
  have hxl : x.1 < (ordN ns ns.length).1.length := by rw [← hil]; exact x.2
  have hin : (ordN ns ns.length).1.getD x.1 0 < g.length := by
   rw [← HNL.out]
   apply HORD.out
   rw [List.getD_eq_getElem?_getD, List.getElem?_eq_getElem hxl]
   exact List.getElem_mem _
  have hSP := tails_span (g := g) (ns := ns) (ord := (ordN ns ns.length).1) (graphN_time HGR.out) (pre.map (·.1))
  have hSN := tailsL_snoc g ns (ordN ns ns.length).1 (pre.map (·.1)) x.1
  have HSN : Hid (tailsL g ns (ordN ns ns.length).1 ((pre ++ [x]).map (·.1)) = tailStep g ns (tailsL g ns (ordN ns ns.length).1 (pre.map (·.1))) ((ordN ns ns.length).1.getD x.1 0)) := Lib.hid (by rw [List.map_append, List.map_cons, List.map_nil]; exact hSN)
  clear hSN
  have hpl : pre.length < 8 := by omega
  rw [List.length_map] at hSP
  generalize tailsL g ns (ordN ns ns.length).1 (pre.map (·.1)) = o at hI hSP HSN
  generalize (ordN ns ns.length).1.getD x.1 0 = i at hbx hin HSN
  obtain ⟨h1, h2, h3, _⟩ := HH.out
  have hBw := hI.hB
  have h1' : W.heap[C]? = _ := (hBw.block C hCl).trans h1
  have cC0 := blk_cell h1' 0
  have cC1 := blk_cell h1' 1
  simp at cC0 cC1
  obtain ⟨adg, A1, c1, rfl, hx0, _⟩ := at_Tk (Kd.C_below h2 hBw) i hin
  obtain ⟨adn, rfl, hn1⟩ := at_set (Kd.C_below h3 hBw) i (by rw [HNL.out]; exact hin)
  have hnl := HNL.out
  have hin2 : i < ns.length := by omega
  have hs := needsN_lt HN.out i
  have hs2 := needsN_pow HN.out i
  have htm := graphN_time HGR.out i
  have hol' : o.length = g.length := hSP.1
  have cX := hI.hX.cell
  have cO := hI.hO.cell
  have cI := hbx.cell
  have cR := hI.hR.cell i (by omega)
  have fR := hI.hR.frozen i
  have hoi := hSP.2 i
  have HTS : Hid (tailStep g ns o i = (elems (ns.getD i 0)).foldl (tailPush i) (o.set i (o.getD i 0 + (rdTk g i).f0))) := Lib.hid rfl
  have HOI : Hid (o.getD i 0 = o.getD i 0) := Lib.hid rfl
  generalize hy : o.getD i 0 = y at cR hoi HTS
  generalize htq : (rdTk g i).f0 = tm at hx0 htm HTS
  generalize hsq : ns.getD i 0 = s at hn1 hs hs2 HTS
  have HY := Lib.hid hy
  have HSQ := Lib.hid hsq
  clear h1 h2 h3 h1' hy htq hsq HOI hnl
  have hii : (i : Int) < (g.length : Int) := by omega
  have hii2 : (i : Int) < (ns.length : Int) := by omega
  have hwr : IntKind.i64.wrap (y + tm) = y + tm := IntWalk.i64_in _ (by omega)
  gi_wp2
  refine wpIn_region_still_tail 14 mixed (by kernel_rfl) (by kernel_rfl) (fun ⟨_, _, h⟩ => h) ?_
  simp only [List.take_succ_cons, List.take_zero, List.drop_succ_cons, List.drop_zero]
  repeat (with_reducible refine wpStill_step (fun K hK => ?_); go_simp; with_reducible refine hK _ ?_; clear hK K)
  with_reducible refine wpStill_nil ?_
  clear hwr
  go_wp2
  have hXR : w.heap.size ≠ w.heap.size + 1 := by omega
  have hOR : w.heap.size + 1 + 1 ≠ w.heap.size + 1 := by omega
  have hWn := hI.hn
  have hbR : b ≠ w.heap.size + 1 := by omega
  obtain ⟨W1, hW1⟩ : ∃ W1, W1 = (W.setCell ⟨w.heap.size + 1, i, none⟩ (.int .i64 (y + tm))).drew := ⟨_, rfl⟩
  have hI1 : THeap w (w.heap.size + 4) g.length C w.heap.size (w.heap.size + 1 + 1) (w.heap.size + 1) (o.set i (y + tm)) W1 := by rw [hW1]; exact (hI.set hXR hOR (by omega) i (y + tm)).drew
  have hbx1 : Boxed W1 b 3 (.int .i64 (i : Int)) := by rw [hW1]; exact blk_far hbx hbR _
  have hKF1 : KeepsOthers W W1 := by rw [hW1]; exact (KeepsOthers.setCell _ _ _).trans (KeepsOthers.drew _)
  have hKB1 : KeepB (w.heap.size + 1 + 1 + 1) Aq W W1 := by
   rw [hW1]
   exact KeepB.set W ⟨w.heap.size + 1, i, none⟩ _ (show w.heap.size + 1 + 1 + 1 ≠ w.heap.size + 1 by omega) (fun ad e => show ad.block ≠ w.heap.size + 1 by have := hAl ad e; omega)
  have hlr1 : W1.heap[l]? = some (.loop lr) := hKF1.same l _ hlr rfl
  have hz1 : W1.heap.size = W.heap.size := by rw [hW1]; simp [World.setCell, World.drew]
  rw [← hW1]
  have HI := Lib.hid hI1
  have HK1 := Lib.hid (And.intro hKF1 (And.intro hKB1 hlr1))
  clear hW1 cX cO cI cR fR cC0 cC1 hI hbx hBw hKF1 hKB1 hlr1
  have hBw1 := hI1.hB
  have cC1 : W1.cell? ⟨C, 1, none⟩ = some (.slice (some adn) ns.length cn) := pw_cell_below hBw1 (by have := blk_cell HH.out.1 1; simpa using this)
  have cn1 : W1.cell? (adn.add i) = some (.int .u16 (s : Nat)) := by
   obtain ⟨ad', e', hc⟩ := at_set (Kd.C_below HH.out.2.2.1 hBw1) i hin2
   cases e'
   rw [hc, HSQ.out]
  have HZ1 := Lib.hid hz1
  clear hz1
  have cX := hI1.hX.cell
  have cI := hbx1.cell
  gi_wp2
  refine wpIn_region_still_tail 7 mixed (by kernel_rfl) (by kernel_rfl) (fun ⟨_, _, h⟩ => h) ?_
  simp only [List.take_succ_cons, List.take_zero, List.drop_succ_cons, List.drop_zero]
  repeat (with_reducible refine wpStill_step (fun K hK => ?_); go_simp; with_reducible refine hK _ ?_; clear hK K)
  with_reducible refine wpStill_nil ?_
  go_wp2_with (go_at_call 79; refine (all_calls s _).mono ?_; rintro e w' ⟨rfl, rfl⟩)
  gi_wp2
  obtain ⟨W2, hW2⟩ : ∃ W2, W2 = (W1.alloc (.cells #[.int .u16 s] 70)).drew := ⟨_, rfl⟩
  have hI2 : THeap w (w.heap.size + 4) g.length C w.heap.size (w.heap.size + 1 + 1) (w.heap.size + 1) (o.set i (y + tm)) W2 := by rw [hW2]; exact (hI1.alloc _).drew
  have hbx2 : Boxed W2 b 3 (.int .i64 (i : Int)) := by rw [hW2]; exact hbx1.alloc _
  have hset2 : Boxed W2 W1.heap.size 70 (.int .u16 s) := by rw [hW2]; exact Boxed.new W1 _ _
  have hKF2 : KeepsOthers W W2 := by rw [hW2]; exact HK1.out.1.trans ((KeepsOthers.alloc _ _).trans (KeepsOthers.drew _))
  have hKB2 : KeepB (w.heap.size + 1 + 1 + 1) Aq W W2 := by rw [hW2]; exact HK1.out.2.1.trans (KeepB.below (((Below.refl _ _).alloc (Nat.le_refl _) _).drew))
  have hlr2 : W2.heap[l]? = some (.loop lr) := by rw [hW2]; exact (KeepsOthers.alloc _ _).same l _ HK1.out.2.2 rfl
  have hz2 : W2.heap.size = W1.heap.size + 1 := by rw [hW2]; exact World.size_alloc _ _
  rw [← hW2]
  have hbw2 := hbx2.lt
  clear hW2 hI1 hBw1 cX cI cC1 cn1
  have hn1 := HI.out.hn
  refine wpIn_rangeSetN (l₀ := l) (r₀ := lr) s W1.heap.size w.heap.size hs ?hl0 rfl (by omega) ?hc0 ?hT0 (by have := hI2.hB.size; omega) htl
   (fun pre2 W' => THeap w (w.heap.size + 4) g.length C w.heap.size (w.heap.size + 1 + 1) (w.heap.size + 1) ((pre2.map (·.1)).foldl (tailPush i) (o.set i (y + tm))) W' ∧ Boxed W' b 3 (.int .i64 (i : Int)) ∧ KeepsFrom W0.heap.size W W' ∧ KeepB (w.heap.size + 1 + 1 + 1) Aq W W') (fun _ _ _ => False) ?hI ?hIx ?h0
   (fun x => { tmps := #[u 0, .pointer (some ⟨w.heap.size, 0, none⟩), u 2, .pointer (some ⟨w.heap.size + 1 + 1, 0, none⟩), u 4, .pointer (some ⟨b, 0, none⟩), .int .i64 (x.1 : Nat), u 7, u 8, u 9, u 10, u 11, u 12, u 13, u 14, u 15, u 16, .slice (some ⟨w.heap.size + 1, 0, none⟩) g.length g.length, .int .i64 (i : Int), .pointer (some ⟨w.heap.size + 1, i, none⟩), .int .i64 y, .pointer (some ⟨C, 0, none⟩), .pointer (some ⟨C, 0, none⟩), .pointer (some ⟨C, 0, none⟩), .slice (some adg) g.length cg, .int .i64 (i : Int), .pointer (some (adg.add (i * 4))), .pointer (some (adg.add (i * 4))), .int .i64 tm, .int .i64 (y + tm), .pointer (some ⟨w.heap.size + 1, i, none⟩), .pointer (some ⟨C, 0, none⟩), .pointer (some ⟨C, 0, none⟩), .pointer (some ⟨C, 1, none⟩), .slice (some adn) ns.length cn, .int .i64 (i : Int), .pointer (some (adn.add i)), .int .u16 s, .func (.func 112) #[] #[.pointer (some ⟨W1.heap.size, 0, none⟩)], .int .i64 (x.1 : Nat), u 40, u 41, u 42, u 43, u 44, u 45, u 46, u 47, u 48, u 49, u 50, u 51, u 52], defers := [] }) ?assign2 ?body2 ?done2 ?stop2
  case hl0 => exact hlr2
  case hc0 => exact hset2.cell
  case hT0 => exact hT.keep htl hI2.hB
  case hI =>
   exact (THeap.own _ (by omega)).and ((Own.from (boxed_own b 3 (fun _ => _)) _).and ((ownFrom_keepsFrom (by have := HK1.out.1.size; omega)).and (ownFrom_keepB (by omega) (fun ad e => by have := hAl ad e; omega))))
  case hIx => exact fun _ _ _ _ _ h _ _ => h
  case h0 => exact ⟨hI2, hbx2, hKF2.from _, hKB2⟩
  case stop2 => exact fun _ _ _ h => h.elim
  case assign2 =>
   intro l2 x2 W3 K hK
   gi_wp2
   exact hK
  case body2 =>
   rintro l2 pre2 x2 W3 ⟨hI3, hbx3, hKF3, hKB3⟩ hlt2
   have hx2n : x2.1 < g.length := elems_below hs2 x2.2
   have hSp := Span.pushes i (pre2.map (·.1)) _ (hSP.set (b' := 20 * pre.length + 20) (x := y + tm) (by omega) (by omega) i)
   have HFS : Hid (((pre2 ++ [x2]).map (·.1)).foldl (tailPush i) (o.set i (y + tm)) = tailPush i ((pre2.map (·.1)).foldl (tailPush i) (o.set i (y + tm))) x2.1) := Lib.hid (by rw [List.map_append, List.foldl_append]; rfl)
   generalize (pre2.map (·.1)).foldl (tailPush i) (o.set i (y + tm)) = p at hI3 hSp HFS
   have hpl2 := hSp.1
   have cO := hI3.hO.cell
   have cI := hbx3.cell
   have cR1 := hI3.hR.cell x2.1 (by omega)
   have cR2 := hI3.hR.cell i (by omega)
   have fR := hI3.hR.frozen x2.1
   have h1 := hSp.2 x2.1
   have h2 := hSp.2 i
   have HTP : Hid (tailPush i p x2.1 = p.set x2.1 (max (p.getD x2.1 0) (p.getD i 0))) := Lib.hid rfl
   generalize p.getD x2.1 0 = a1 at cR1 h1 HTP
   generalize p.getD i 0 = a2 at cR2 h2 HTP
   have hxi : ((x2.1 : Nat) : Int) < (g.length : Int) := by omega
   clear hz0 hz2
   gi_wp2
   refine wpIn_region_still_tail 12 mixed (by kernel_rfl) (by kernel_rfl) (fun ⟨_, _, h⟩ => h) ?_
   simp only [List.take_succ_cons, List.take_zero, List.drop_succ_cons, List.drop_zero]
   repeat (with_reducible refine wpStill_step (fun K hK => ?_); go_simp; with_reducible refine hK _ ?_; clear hK K)
   with_reducible refine wpStill_nil ?_
   have HF : Hid (∀ z : Int, z = max a1 a2 → KeepsFrom W2.heap.size W3 (W3.setCell ⟨w.heap.size + 1, x2.1, none⟩ (.int .i64 z)).drew ∧ Below w.heap.size W3 (W3.setCell ⟨w.heap.size + 1, x2.1, none⟩ (.int .i64 z)).drew ∧ THeap w (w.heap.size + 4) g.length C w.heap.size (w.heap.size + 1 + 1) (w.heap.size + 1) (((pre2 ++ [x2]).map (·.1)).foldl (tailPush i) (o.set i (y + tm))) (W3.setCell ⟨w.heap.size + 1, x2.1, none⟩ (.int .i64 z)).drew ∧ Boxed (W3.setCell ⟨w.heap.size + 1, x2.1, none⟩ (.int .i64 z)).drew b 3 (.int .i64 (i : Int)) ∧ KeepsFrom W0.heap.size W (W3.setCell ⟨w.heap.size + 1, x2.1, none⟩ (.int .i64 z)).drew ∧ KeepB (w.heap.size + 1 + 1 + 1) Aq W (W3.setCell ⟨w.heap.size + 1, x2.1, none⟩ (.int .i64 z)).drew) := by
    refine Lib.hid fun z hz => ?_
    have hk : KeepsOthers W3 (W3.setCell ⟨w.heap.size + 1, x2.1, none⟩ (.int .i64 z)).drew := (KeepsOthers.setCell _ _ _).trans (KeepsOthers.drew _)
    refine ⟨hk.from _, ((Below.refl _ _).setCell (p := ⟨w.heap.size + 1, x2.1, none⟩) (show w.heap.size ≤ w.heap.size + 1 by omega) _).drew, ?_, blk_far hbx3 hbR _, hKF3.trans (hk.from _), hKB3.trans (KeepB.set W3 ⟨w.heap.size + 1, x2.1, none⟩ _ (show w.heap.size + 1 + 1 + 1 ≠ w.heap.size + 1 by omega) (fun ad e => show ad.block ≠ w.heap.size + 1 by have := hAl ad e; omega))⟩
    rw [HFS.out, HTP.out, ← hz]
    exact (hI3.set hXR hOR (by omega) x2.1 z).drew
   go_wp2
   all_goals exact HF.out _ (by omega)
  case done2 =>
   rintro ys W3 hys ⟨hI3, hbx3, hKF3, hKB3⟩
   gi_wp2
   rw [hys] at hI3
   refine ⟨hKF3, hKB3, ?_⟩
   show THeap _ _ _ _ _ _ _ _ _
   rw [HSN.out, HTS.out]
   exact hI3
 case done =>
  rintro D ys W hD hys hI hK
  have hbk : backL (ints (ordN ns ns.length).1).length (ints (ordN ns ns.length).1).length = backL (ordN ns ns.length).1.length (ordN ns ns.length).1.length := by rw [hil]
  have hM := congrArg (tailsL g ns (ordN ns ns.length).1) (hys.trans hbk)
  rw [hM] at hI
  have hlen' := tails_span (g := g) (ns := ns) (ord := (ordN ns ns.length).1) (graphN_time HGR.out) (backL (ordN ns ns.length).1.length (ordN ns ns.length).1.length)
  have HI := Lib.hid hI
  have cO := hI.hO.cell
  have HL := Lib.hid hlen'.1
  clear hI hM hlen' hys hbk
  go_wp2
  refine leave_one hK (results_tmp rfl _ _ _) ⟨_, rfl, ?_, ?_⟩
  ·
   have hR := HI.out.hR
   have : IRow (W.putObj D (.deferred none)) (w.heap.size + 1) (tailsL g ns (ordN ns ns.length).1 (backL (ordN ns ns.length).1.length (ordN ns ns.length).1.length)) := by
    refine ((grownBy_putObj' W D _).block _ (blk_lt hR) (fun e => ?_)).trans hR
    cases e
    omega
   have hown := this.own (base := w.heap.size) (by omega) (by rw [HL.out]; omega)
   rw [HL.out] at hown
   exact hown
  ·
   exact HI.out.hB.trans (belowK_b (w := w) (Nat.le_refl _) W D _ _ (by omega) hK rfl rfl)
theorem tailN_span {g : List Tk} {ns : List Nat} (h : graphN g = some ns) : Span (tailN g ns) g.length 160 := by
 have h1 := tails_span (g := g) (ns := ns) (ord := (ordN ns ns.length).1) (graphN_time h) (backL (ordN ns ns.length).1.length (ordN ns ns.length).1.length)
 have h2 := (ordN_lt ns ns.length).2.2
 obtain ⟨_, _, h3, h4⟩ := graphN_some h
 rw [backL_length] at h1
 exact ⟨h1.1, fun j => by have := h1.2 j; unfold tailN; omega⟩
end Go.Proofs.YtlapphhcficbjaaDoor

namespace Go.Proofs.YtlapphhcficbjaaDoor
set_option linter.unusedVariables false
set_option linter.unusedSimpArgs false
open Go.RowKit Go.Shelf Bits
open Go.Proofs.YtlapphhcficbjaaDoorW.PrintWords Go.Proofs.YtlapphhcficbjaaDoorW.PrintLast Go.Proofs.YtlapphhcficbjaaDoorW.PrintMore
attribute [local go_sem] Oper.semAt_some
structure Ct where
 t : Int
 u : Nat → Int
def Ct.zero : Ct := ⟨0, fun _ => 0⟩
def Ct.add (c : Ct) (p : Nat) (x s : Int) : Ct := ⟨c.t + s, fun j => if j = p then c.u j + s * x else c.u j⟩
def CAt (W : World) (b : Nat) (c : Ct) : Prop := W.heap[b]? = some (.cells #[.int .i64 c.t, .int .i64 (c.u 0), .int .i64 (c.u 1), .int .i64 (c.u 2)] 106 (0, 0))
theorem CAt.lt {W : World} {b : Nat} {c : Ct} (h : CAt W b c) : b < W.heap.size := blk_lt h
theorem CAt.below {W W' : World} {b : Nat} {c : Ct} (h : CAt W b c) (hb : Below W.heap.size W W') : CAt W' b c := (hb.block b h.lt).trans h
theorem CAt.cell {W : World} {b : Nat} {c : Ct} (h : CAt W b c) (p : Nat) (hp : p < 3) : W.cell? ⟨b, 1 + p, none⟩ = some (.int .i64 (c.u p)) := by
 rw [blk_cell h]
 rcases p with _ | _ | _ | p
 ·
  simp
 ·
  simp
 ·
  simp
 ·
  omega
theorem CAt.setT {W : World} {b : Nat} {c : Ct} (h : CAt W b c) (v : Int) : CAt (W.setCell ⟨b, 0, none⟩ (.int .i64 v)) b ⟨v, c.u⟩ := by
 have h1 := blk_set h 0 (.int .i64 v)
 unfold CAt
 rw [h1]
 simp
theorem CAt.setU {W : World} {b : Nat} {c : Ct} (h : CAt W b c) (p : Nat) (hp : p < 3) (v : Int) : CAt (W.setCell ⟨b, 1 + p, none⟩ (.int .i64 v)) b ⟨c.t, fun j => if j = p then v else c.u j⟩ := by
 have h2 := blk_set h (1 + p) (.int .i64 v)
 unfold CAt
 rw [h2]
 rcases p with _ | _ | _ | p
 ·
  simp
 ·
  simp
 ·
  simp
 ·
  omega
def Ct.small (c : Ct) (n : Int) : Prop := (-n ≤ c.t ∧ c.t ≤ n) ∧ ∀ j, -(1000 * n) ≤ c.u j ∧ c.u j ≤ 1000 * n
set_option maxRecDepth 100000 in
set_option maxHeartbeats 4000000 in
theorem add_calls (b : Nat) (c : Ct) (f0 : Int) (fv : Value) (p : Nat) (x s : Int) (hp : p < 3) (hx : 0 ≤ x ∧ x ≤ 1000) (hs : s = 1 ∨ s = -1) (hc : c.small 1000) (w : World) (hC : CAt w b c) :
  Calls Tryd.prog 80 #[.pointer (some ⟨b, 0, none⟩), .agg #[.int .i64 f0, fv, .int .i64 p, .int .i64 x], .int .i64 s] w fun e w' => e = .returned (.tuple #[]) ∧ CAt w' b (c.add p x s) ∧ KeepBut w w' b none ∧ Below b w w' := by
 have hlt := hC.lt
 obtain ⟨⟨t1, t2⟩, hu⟩ := hc
 have hup := hu p
 have c0 := blk_cell hC 0
 simp at c0
 have f0' := blk_frozen hC 0
 have hne : b ≠ w.heap.size := by omega
 have hct : IntKind.i64.wrap (c.t + s) = c.t + s := IntWalk.i64_in _ (by rcases hs with rfl | rfl <;> omega)
 have hsb : -1 ≤ s ∧ s ≤ 1 := by rcases hs with rfl | rfl <;> omega
 have hsx : IntKind.i64.wrap (s * x) = s * x := IntWalk.i64_in _ (by rcases hs with rfl | rfl <;> omega)
 have hsu : IntKind.i64.wrap (c.u p + s * x) = c.u p + s * x := IntWalk.i64_in _ (by rcases hs with rfl | rfl <;> omega)
 have HSX := Lib.hid (And.intro hsx hsu)
 have HC := Lib.hid hC
 clear hC hu hs hup hct hsx hsu
 generalize hctq : c.t = ct at c0 t1 t2
 have HCT := Lib.hid hctq
 clear hctq
 go_enter Tryd.func80, Tryd.ntmps80
 go_upto_region 2 with (fail)
 obtain ⟨W1, hW1⟩ : ∃ W1, W1 = (w.setCell ⟨b, 0, none⟩ (.int .i64 (ct + s))).alloc (.cells #[.int .i64 f0, fv, .int .i64 p, .int .i64 x] 41) := ⟨_, rfl⟩
 have hsz : (w.setCell ⟨b, 0, none⟩ (.int .i64 (ct + s))).heap.size = w.heap.size := by simp [World.setCell]
 have hBa : Below (w.setCell ⟨b, 0, none⟩ (.int .i64 (ct + s))).heap.size (w.setCell ⟨b, 0, none⟩ (.int .i64 (ct + s))) W1 := by rw [hW1]; exact (Below.refl _ _).alloc (Nat.le_refl _) _
 have bb : W1.heap[w.heap.size]? = some (.cells #[.int .i64 f0, fv, .int .i64 p, .int .i64 x] 41 (0, 0)) := by rw [hW1, ← hsz]; exact World.alloc_heap_new _ _
 have b2 : W1.cell? ⟨w.heap.size, 2, none⟩ = some (.int .i64 p) := (blk_cell bb 2).trans (by simp)
 have b3 : W1.cell? ⟨w.heap.size, 3, none⟩ = some (.int .i64 x) := (blk_cell bb 3).trans (by simp)
 clear bb
 have HC1 := Lib.hid ((HC.out.setT (ct + s)).below hBa)
 have HB1 : Hid (Below b w W1) := Lib.hid (((Below.refl b w).setCell (p := ⟨b, 0, none⟩) (Nat.le_refl _) _).trans (hBa.mono (by rw [hsz]; omega)))
 have HK1 : Hid (KeepBut w W1 b none) := Lib.hid (((KeepBut.refl w b none).set_ 0 _).trans (KeepBut.of_below hBa b none) (.inl rfl))
 rw [← hW1]
 clear hW1 hBa hsz
 have cp := HC1.out.cell p hp
 have fp := blk_frozen HC1.out (1 + p)
 have hpi : (p : Int) < 3 := by omega
 have hsx := HSX.out.1
 have hsu := HSX.out.2
 change W1.cell? ⟨b, 1 + p, none⟩ = some (.int .i64 (c.u p)) at cp
 generalize hq : c.u p = cu at cp hsu
 have HQ := Lib.hid hq
 clear hq c0 f0'
 go_still_tail 15, mixed
 go_wp2
 refine bodyPost_end (results_none rfl _ _ _) rfl ?_
 have hend : CAt (W1.setCell ⟨b, 1 + p, none⟩ (.int .i64 (cu + s * x))) b (c.add p x s) := by
  have h := HC1.out.setU p hp (cu + s * x)
  unfold Ct.add
  rw [HCT.out, ← HQ.out] 
  rw [← HQ.out] at h
  have e : (fun j => if j = p then c.u j + s * x else c.u j) = fun j => if j = p then c.u p + s * x else c.u j := by
   funext j
   by_cases hj : j = p
   ·
    rw [if_pos hj, if_pos hj, hj]
   ·
    rw [if_neg hj, if_neg hj]
  rw [e]
  exact h
 have hBb : Below b W1 (W1.setCell ⟨b, 1 + p, none⟩ (.int .i64 (cu + s * x))) := (Below.refl b W1).setCell (p := ⟨b, 1 + p, none⟩) (Nat.le_refl _) _
 exact ⟨rfl, hend.below (Below.refl _ _).drew, (KeepBut.set_ HK1.out (1 + p) _).trans (KeepBut.of_below (Below.refl _ _).drew b none) (.inl rfl), (HB1.out.trans hBb).drew⟩
def Ct.can (c : Ct) (p : Nat) (x : Int) (rm : List Int) (wk : Int) : Bool := decide (c.t < wk) && decide (c.u p + x ≤ rm.getD p 0)
set_option maxRecDepth 100000 in
set_option maxHeartbeats 4000000 in
theorem takes_calls (b : Nat) (c : Ct) (f0 : Int) (fv : Value) (p : Nat) (x : Int) (A : Option Addr) (k : Nat) (rm : List Int) (wk : Int) (hp : p < 3) (hx : 0 ≤ x ∧ x ≤ 1000) (hc : c.small 1000) (hrm : rm.length = 3) (w : World) (hC : CAt w b c) (hr : (Kd.int .i64).C w A rm.length rm) :
  Calls Tryd.prog 81 #[.pointer (some ⟨b, 0, none⟩), .agg #[.int .i64 f0, fv, .int .i64 p, .int .i64 x], .slice A rm.length k, .int .i64 wk] w fun e w' => e = .returned (.bool (c.can p x rm wk)) ∧ CAt w' b (if c.can p x rm wk then c.add p x 1 else c) ∧ KeepBut w w' b none ∧ Below b w w' := by
 have hlt := hC.lt
 have hup := hc.2 p
 have HS := Lib.hid hc
 have HR := Lib.hid hr
 clear hc hr
 have hne : b ≠ w.heap.size := by omega
 obtain ⟨W1, hW1⟩ : ∃ W1, W1 = w.alloc (.cells #[.int .i64 f0, fv, .int .i64 p, .int .i64 x] 41) := ⟨_, rfl⟩
 have hBa : Below w.heap.size w W1 := by rw [hW1]; exact (Below.refl _ _).alloc (Nat.le_refl _) _
 have bb : W1.heap[w.heap.size]? = some (.cells #[.int .i64 f0, fv, .int .i64 p, .int .i64 x] 41 (0, 0)) := by rw [hW1]; exact World.alloc_heap_new _ _
 have b0 : W1.cell? ⟨w.heap.size, 0, none⟩ = some (.int .i64 f0) := (blk_cell bb 0).trans (by simp)
 have b1 : W1.cell? ⟨w.heap.size, 1, none⟩ = some fv := (blk_cell bb 1).trans (by simp)
 have b2 : W1.cell? ⟨w.heap.size, 2, none⟩ = some (.int .i64 p) := (blk_cell bb 2).trans (by simp)
 have b3 : W1.cell? ⟨w.heap.size, 3, none⟩ = some (.int .i64 x) := (blk_cell bb 3).trans (by simp)
 have HC1 := Lib.hid (hC.below hBa)
 have HBa := Lib.hid hBa
 have HC0 := Lib.hid hC
 have c0 := blk_cell (hC.below hBa) 0
 simp at c0
 have cp := (hC.below hBa).cell p hp
 obtain ⟨ad, rfl, cr⟩ := at_num (Kd.C_below HR.out hBa) p (by omega)
 clear bb hBa hC
 have hpi : (p : Int) < 3 := by omega
 have hpr : (p : Int) < (rm.length : Int) := by omega
 have hsu : IntKind.i64.wrap (c.u p + x) = c.u p + x := IntWalk.i64_in _ (by omega)
 have HCAN : Hid (c.can p x rm wk = (decide (c.t < wk) && decide (c.u p + x ≤ rm.getD p 0))) := Lib.hid rfl
 have HADD := fun W hC => add_calls b c f0 fv p x 1 hp hx (.inl rfl) HS.out W hC
 generalize c.can p x rm wk = cb at HCAN ⊢
 generalize hce : (if cb then c.add p x 1 else c) = c' 
 have HCE := Lib.hid hce
 clear hce
 generalize c.u p = cu at cp hsu hup HCAN
 generalize c.t = ct at c0 HCAN
 generalize rm.getD p 0 = rp at cr HCAN
 go_enter Tryd.func81, Tryd.ntmps81
 go_upto_region 1 with (fail)
 rw [← hW1]
 clear hW1
 by_cases h1 : ct < wk
 ·
  have g1 : decide (ct ≥ wk) = false := decide_eq_false (by omega)
  have g1' : decide (wk ≤ ct) = false := decide_eq_false (by omega)
  have e1 : decide (ct < wk) = true := decide_eq_true h1
  by_cases h2 : cu + x ≤ rp
  ·
   have g2 : decide (cu + x > rp) = false := decide_eq_false (by omega)
   have g2' : decide (rp < cu + x) = false := decide_eq_false (by omega)
   have e2 : decide (cu + x ≤ rp) = true := decide_eq_true h2
   rw [e1, e2] at HCAN
   clear h1 h2 e1 e2
   go_wp2
   go_quiet (fail)
   have hBq : Below w.heap.size w (W1.drewN nq) := pw_below_drewN HBa.out nq
   have hCq := HC0.out.below hBq
   go_wp2_with (go_at_call 80; refine (HADD _ hCq).mono ?_; rintro e w2 ⟨rfl, hC2, hK2, hB2⟩)
   go_ret
   have hc' : c' = c.add p x 1 := by rw [← HCE.out, HCAN.out]; rfl
   refine ⟨ret_bool HCAN.out.symm, ?_, (KeepBut.of_below hBq b none).trans hK2 (.inl rfl), (hBq.mono (by omega)).trans hB2⟩
   rw [hc']
   exact hC2
  ·
   have g2 : decide (cu + x > rp) = true := decide_eq_true (by omega)
   have g2' : decide (rp < cu + x) = true := decide_eq_true (by omega)
   have e2 : decide (cu + x ≤ rp) = false := decide_eq_false h2
   rw [e1, e2] at HCAN
   clear h1 h2 e1 e2
   go_wp2
   go_quiet (fail)
   go_wp2
   go_ret
   have hc' : c' = c := by rw [← HCE.out, HCAN.out]; rfl
   refine ⟨ret_bool HCAN.out.symm, ?_, (KeepBut.of_below HBa.out b none |> fun h => h.trans (KeepBut.of_below (pw_below_drewN (Below.refl _ _) nq) b none) (.inl rfl)), (pw_below_drewN HBa.out nq).mono (by omega)⟩
   rw [hc']
   exact HC1.out.below (pw_below_drewN (Below.refl _ _) nq)
 ·
  have g1 : decide (ct ≥ wk) = true := decide_eq_true (by omega)
  have g1' : decide (wk ≤ ct) = true := decide_eq_true (by omega)
  have e1 : decide (ct < wk) = false := decide_eq_false h1
  rw [e1, Bool.false_and] at HCAN
  clear h1 e1
  go_wp2
  go_quiet (fail)
  go_wp2
  go_ret
  have hc' : c' = c := by rw [← HCE.out, HCAN.out]; rfl
  refine ⟨ret_bool HCAN.out.symm, ?_, (KeepBut.of_below HBa.out b none |> fun h => h.trans (KeepBut.of_below (pw_below_drewN (Below.refl _ _) nq) b none) (.inl rfl)), (pw_below_drewN HBa.out nq).mono (by omega)⟩
  rw [hc']
  exact HC1.out.below (pw_below_drewN (Below.refl _ _) nq)
end Go.Proofs.YtlapphhcficbjaaDoor

namespace Go.Proofs.YtlapphhcficbjaaDoor
set_option linter.unusedVariables false
set_option linter.unusedSimpArgs false
open Go.RowKit Go.Shelf Bits
open Go.Proofs.YtlapphhcficbjaaDoorW.PrintWords Go.Proofs.YtlapphhcficbjaaDoorW.PrintLast Go.Proofs.YtlapphhcficbjaaDoorW.PrintMore
theorem allIn_is (b : Bool) (A : Option Addr) (c : Nat) (l : List Int) (lo hi : Int) (h : Hid (allInB l lo hi = b)) (w : World) (hr : (Kd.int .i64).C w A l.length l) :
  Calls Tryd.prog 100 #[.slice A l.length c, .int .i64 lo, .int .i64 hi] w fun e w' => e = .returned (.bool b) ∧ w' = w :=
 (allIn_calls A c l lo hi w hr).mono fun e w' ⟨he, hw⟩ => ⟨by rw [he, h.out], hw⟩
theorem ascends_is (b : Bool) (A : Option Addr) (c : Nat) (l : List Int) (h : Hid (ascB l = b)) (w : World) (hr : (Kd.int .i64).C w A l.length l) :
  Calls Tryd.prog 126 #[.slice A l.length c] w fun e w' => e = .returned (.bool b) ∧ Below w.heap.size w w' :=
 (ascends_calls A c l w hr).mono fun e w' ⟨he, hw⟩ => ⟨by rw [he, h.out], hw⟩
def taskFineB (n : Int) (t : Tk) : Bool := inB t.f0 1 20 && inB t.f2 0 2 && inB t.f3 1 4 && allInB t.f1 0 (n - 1) && ascB t.f1
def tkVal (t : Tk) (v : Value) : Value := .agg #[.int .i64 t.f0, v, .int .i64 t.f2, .int .i64 t.f3]
set_option maxRecDepth 100000 in
set_option maxHeartbeats 2000000 in
theorem validTask_calls (t : Tk) (A : Option Addr) (c : Nat) (n : Int) (hn0 : 0 ≤ n) (hn : n ≤ 9223372036854775807) (w : World) (hC : (Kd.int .i64).C w A t.f1.length t.f1) :
  Calls Tryd.prog 133 #[.agg #[.int .i64 t.f0, .slice A t.f1.length c, .int .i64 t.f2, .int .i64 t.f3], .int .i64 n] w fun e w' => e = .returned (.bool (taskFineB n t)) ∧ Below w.heap.size w w' := by
 cases b0 : inB t.f0 1 20
 ·
  have H0 := Lib.hid b0
  clear b0
  go_enter Tryd.func133, Tryd.ntmps133
  go_wp2_with (first | (go_at_call 84; with_reducible refine (inRange_is _ _ _ _ H0 _).mono ?_; rintro e w' ⟨rfl, rfl⟩))
  go_ret
  exact ⟨ret_bool (by simp only [taskFineB, H0.out]; rfl), below_alloc (Below.refl _ _) _⟩
 ·
  have H0 := Lib.hid b0
  clear b0
  cases b1 : inB t.f2 0 2
  ·
   have H1 := Lib.hid b1
   clear b1
   go_enter Tryd.func133, Tryd.ntmps133
   go_wp2_with (first | (go_at_call 84; with_reducible refine (inRange_is _ _ _ _ H0 _).mono ?_; rintro e w' ⟨rfl, rfl⟩) | (go_at_call 84; with_reducible refine (inRange_is _ _ _ _ H1 _).mono ?_; rintro e w' ⟨rfl, rfl⟩))
   go_ret
   exact ⟨ret_bool (by simp only [taskFineB, H0.out, H1.out]; rfl), below_alloc (Below.refl _ _) _⟩
  ·
   have H1 := Lib.hid b1
   clear b1
   cases b2 : inB t.f3 1 4
   ·
    have H2 := Lib.hid b2
    clear b2
    go_enter Tryd.func133, Tryd.ntmps133
    go_wp2_with (first | (go_at_call 84; with_reducible refine (inRange_is _ _ _ _ H0 _).mono ?_; rintro e w' ⟨rfl, rfl⟩) | (go_at_call 84; with_reducible refine (inRange_is _ _ _ _ H1 _).mono ?_; rintro e w' ⟨rfl, rfl⟩) | (go_at_call 84; with_reducible refine (inRange_is _ _ _ _ H2 _).mono ?_; rintro e w' ⟨rfl, rfl⟩))
    go_ret
    exact ⟨ret_bool (by simp only [taskFineB, H0.out, H1.out, H2.out]; rfl), below_alloc (Below.refl _ _) _⟩
   ·
    have H2 := Lib.hid b2
    clear b2
    cases b3 : allInB t.f1 0 (n - 1)
    ·
     have H3 := Lib.hid b3
     clear b3
     go_enter Tryd.func133, Tryd.ntmps133
     go_wp2_with (first | (go_at_call 84; with_reducible refine (inRange_is _ _ _ _ H0 _).mono ?_; rintro e w' ⟨rfl, rfl⟩) | (go_at_call 84; with_reducible refine (inRange_is _ _ _ _ H1 _).mono ?_; rintro e w' ⟨rfl, rfl⟩) | (go_at_call 84; with_reducible refine (inRange_is _ _ _ _ H2 _).mono ?_; rintro e w' ⟨rfl, rfl⟩) | (go_at_call 100; refine (allIn_is _ _ _ _ _ _ H3 _ (Kd.C_below hC (below_alloc (Below.refl _ _) _))).mono ?_; rintro e w' ⟨rfl, rfl⟩))
     go_ret
     exact ⟨ret_bool (by simp only [taskFineB, H0.out, H1.out, H2.out, H3.out]; rfl), below_alloc (Below.refl _ _) _⟩
    ·
     have H3 := Lib.hid b3
     clear b3
     cases b4 : ascB t.f1
     ·
      have H4 := Lib.hid b4
      clear b4
      go_enter Tryd.func133, Tryd.ntmps133
      go_wp2_with (first | (go_at_call 84; with_reducible refine (inRange_is _ _ _ _ H0 _).mono ?_; rintro e w' ⟨rfl, rfl⟩) | (go_at_call 84; with_reducible refine (inRange_is _ _ _ _ H1 _).mono ?_; rintro e w' ⟨rfl, rfl⟩) | (go_at_call 84; with_reducible refine (inRange_is _ _ _ _ H2 _).mono ?_; rintro e w' ⟨rfl, rfl⟩) | (go_at_call 100; refine (allIn_is _ _ _ _ _ _ H3 _ (Kd.C_below hC (below_alloc (Below.refl _ _) _))).mono ?_; rintro e w' ⟨rfl, rfl⟩) | (go_at_call 126; refine (ascends_is _ _ _ _ H4 _ (Kd.C_below hC (below_alloc (Below.refl _ _) _))).mono ?_; rintro e w1 ⟨rfl, hB1⟩))
      go_ret
      exact ⟨ret_bool (by simp only [taskFineB, H0.out, H1.out, H2.out, H3.out, H4.out]; rfl), below_step (below_alloc (Below.refl _ _) _) hB1⟩
     ·
      have H4 := Lib.hid b4
      clear b4
      go_enter Tryd.func133, Tryd.ntmps133
      go_wp2_with (first | (go_at_call 84; with_reducible refine (inRange_is _ _ _ _ H0 _).mono ?_; rintro e w' ⟨rfl, rfl⟩) | (go_at_call 84; with_reducible refine (inRange_is _ _ _ _ H1 _).mono ?_; rintro e w' ⟨rfl, rfl⟩) | (go_at_call 84; with_reducible refine (inRange_is _ _ _ _ H2 _).mono ?_; rintro e w' ⟨rfl, rfl⟩) | (go_at_call 100; refine (allIn_is _ _ _ _ _ _ H3 _ (Kd.C_below hC (below_alloc (Below.refl _ _) _))).mono ?_; rintro e w' ⟨rfl, rfl⟩) | (go_at_call 126; refine (ascends_is _ _ _ _ H4 _ (Kd.C_below hC (below_alloc (Below.refl _ _) _))).mono ?_; rintro e w1 ⟨rfl, hB1⟩))
      go_ret
      exact ⟨ret_bool (by simp only [taskFineB, H0.out, H1.out, H2.out, H3.out, H4.out]; rfl), below_step (below_alloc (Below.refl _ _) _) hB1⟩
theorem validTask_is (b : Bool) (t : Tk) (A : Option Addr) (c : Nat) (n : Int) (h : Hid (taskFineB n t = b)) (hn0 : 0 ≤ n) (hn : n ≤ 9223372036854775807) (w : World) (hC : (Kd.int .i64).C w A t.f1.length t.f1) :
  Calls Tryd.prog 133 #[.agg #[.int .i64 t.f0, .slice A t.f1.length c, .int .i64 t.f2, .int .i64 t.f3], .int .i64 n] w fun e w' => e = .returned (.bool b) ∧ Below w.heap.size w w' :=
 (validTask_calls t A c n hn0 hn w hC).mono fun e w' ⟨he, hw⟩ => ⟨by rw [he, h.out], hw⟩
def tasksFineB (g : List Tk) : Bool := g.all (taskFineB g.length) && decide (g.length ≤ 8)
set_option maxRecDepth 100000 in
set_option maxHeartbeats 2000000 in
theorem tasksFine_calls (A : Option Addr) (c : Nat) (g : List Tk) (w : World) (hr : kTk.C w A g.length g) :
  Calls Tryd.prog 114 #[.slice A g.length c] w fun e w' => e = .returned (.bool (tasksFineB g)) ∧ Below w.heap.size w w' := by
 have hl := (C_len hr).2
 have HR := Lib.hid hr
 clear hr
 go_enter Tryd.func114, Tryd.ntmps114
 go_wp2
 go_loopw [3] (fun i wr => ∃ (k : Nat), k ≤ g.length ∧ i = .int .i64 k ∧ Hid (∀ j, j < k → taskFineB g.length (g.getD j zTk) = true) ∧ Below w.heap.size w wr) (fun i _ => g.length - (intOf i).toNat)
 case atStart => exact ⟨0, Nat.zero_le _, rfl, Lib.hid fun j h => absurd h (Nat.not_lt_zero _), Below.refl _ _⟩
 case round =>
  obtain ⟨k, hk, rfl, HS, HB⟩ := hrel
  by_cases hlt : k < g.length
  ·
   obtain ⟨ad, A1, c1, rfl, hc0, hc1, hc2, hc3, hl1, hC1⟩ := at_Tk (Kd.C_below HR.out HB) k hlt
   cases hb : taskFineB g.length (rdTk g k)
   ·
    have HX := Lib.hid hb
    have HF : Hid (tasksFineB g = false) := Lib.hid (by unfold tasksFineB; rw [all_not (p := taskFineB g.length) zTk hlt hb]; rfl)
    clear hb
    generalize rdTk g k = t at *
    go_wp2_with (go_at_call 133; refine (validTask_is _ t _ _ _ HX (by omega) (by omega) _ hC1).mono ?_; rintro e w1 ⟨rfl, hB1⟩)
    go_ret
    exact ⟨ret_bool HF.out.symm, below_step HB hB1⟩
   ·
    have HX := Lib.hid hb
    have HN := step_lt HS hb
    clear hb
    generalize rdTk g k = t at *
    go_wp2_with (go_at_call 133; refine (validTask_is _ t _ _ _ HX (by omega) (by omega) _ hC1).mono ?_; rintro e w1 ⟨rfl, hB1⟩)
    go_roundw
    case rel => exact ⟨k + 1, by omega, by go_num, HN, below_step HB hB1⟩
    case measure => simp [intOf]; omega
  ·
   have HF : Hid (tasksFineB g = decide (g.length ≤ 8)) := Lib.hid (by unfold tasksFineB; rw [all_take (p := taskFineB g.length) (l := g) zTk fun j hj => HS.out j (by omega)]; rfl)
   go_wp2
   go_ret
   exact ⟨ret_bool (by rw [HF.out, decide_eq_decide]; omega), HB⟩
theorem tasksFine_is (b : Bool) (A : Option Addr) (c : Nat) (g : List Tk) (h : Hid (tasksFineB g = b)) (w : World) (hr : kTk.C w A g.length g) :
  Calls Tryd.prog 114 #[.slice A g.length c] w fun e w' => e = .returned (.bool b) ∧ Below w.heap.size w w' :=
 (tasksFine_calls A c g w hr).mono fun e w' ⟨he, hw⟩ => ⟨by rw [he, h.out], hw⟩
end Go.Proofs.YtlapphhcficbjaaDoor
