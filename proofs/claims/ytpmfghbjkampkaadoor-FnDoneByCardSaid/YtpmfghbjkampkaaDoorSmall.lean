/- The smallest functions: within, has, with, everything. -/
import Derived.Test.YtpmfghbjkampkaaDoorBase
namespace Go.Proofs.YtpmfghbjkampkaaDoor
set_option linter.unusedVariables false
set_option linter.unusedSimpArgs false
open Go.RowKit Go.Shelf Bits
open Go.Proofs.YtpmfghbjkampkaaDoorW.PrintWords Go.Proofs.YtpmfghbjkampkaaDoorW.PrintLast Go.Proofs.YtpmfghbjkampkaaDoorW.PrintMore
def inB (n lo hi : Int) : Bool := decide (lo ≤ n) && decide (n ≤ hi)
theorem inB_true {n lo hi : Int} : inB n lo hi = true ↔ lo ≤ n ∧ n ≤ hi := by simp [inB]
theorem inB_false {n lo hi : Int} : inB n lo hi = false ↔ n < lo ∨ hi < n := by simp [inB]; omega
theorem within_calls (n lo hi : Int) (w : World) : Calls Tryd.prog 73 #[.int .i64 n, .int .i64 lo, .int .i64 hi] w fun e w' => e = .returned (.bool (inB n lo hi)) ∧ w' = w := by
 by_cases h1 : lo ≤ n
 ·
  have d1 : decide (n ≥ lo) = true := by simpa using h1
  go_enter Tryd.func73, Tryd.ntmps73
  go_wp2
  go_ret
  exact ⟨ret_bool (by rw [inB, decide_eq_true h1, Bool.true_and]), rfl⟩
 ·
  have d1 : decide (n ≥ lo) = false := by simpa using h1
  go_enter Tryd.func73, Tryd.ntmps73
  go_wp2
  go_ret
  exact ⟨ret_bool (by rw [inB, decide_eq_false (by omega : ¬ lo ≤ n), Bool.false_and]), rfl⟩
theorem within_is (b : Bool) (n lo hi : Int) (h : Hid (inB n lo hi = b)) (w : World) : Calls Tryd.prog 73 #[.int .i64 n, .int .i64 lo, .int .i64 hi] w fun e w' => e = .returned (.bool b) ∧ w' = w :=
 (within_calls n lo hi w).mono fun e w' ⟨he, hw⟩ => ⟨by rw [he, h.out], hw⟩
theorem pow_u16 (i : Nat) (hi : i < 16) : IntKind.u16.wrap (2 ^ i) = ((2 ^ i : Nat) : Int) ∧ 2 ^ i < 65536 := by
 have h : (2 : Nat) ^ i < 65536 := Nat.pow_lt_pow_right (by omega) hi
 refine ⟨?_, h⟩
 have e : (2 : Int) ^ i = ((2 ^ i : Nat) : Int) := by simp
 rw [e, wrap_u16']
 generalize (2 : Nat) ^ i = q at h
 omega
theorem bits_or_u16 (a b : Nat) (ha : a < 65536) (hb : b < 65536) : bits .or .u16 (a : Int) (b : Int) = ((a ||| b : Nat) : Int) :=
 (bits_nat .u16 16 (by decide) (fun n h0 h1 => by rw [wrap_u16']; omega) a b ha hb).2
theorem or_lt (a b : Nat) (ha : a < 65536) (hb : b < 65536) : a ||| b < 65536 := Nat.or_lt_two_pow (n := 16) ha hb
theorem with_calls (s i : Nat) (hs : s < 65536) (hi : i < 16) (w : World) : Calls Tryd.prog 60 #[.int .u16 s, .int .i64 i] w fun e w' => e = .returned (.int .u16 ((s ||| 2 ^ i : Nat) : Int)) ∧ w' = w := by
 go_enter Tryd.func60, Tryd.ntmps60
 go_wp2
 go_ret
 exact ⟨ret_int (by obtain ⟨e, h⟩ := pow_u16 i hi; rw [e, bits_or_u16 s _ hs h]), rfl⟩
theorem has_calls (s i : Nat) (hs : s < 65536) (hi : i < 16) (w : World) : Calls Tryd.prog 74 #[.int .u16 s, .int .i64 i] w fun e w' => e = .returned (.bool (s.testBit i)) ∧ w' = w := by
 go_enter Tryd.func74, Tryd.ntmps74
 go_wp2
 go_ret
 exact ⟨ret_bool (by
  have e : (s : Int) / 2 ^ i = ((s / 2 ^ i : Nat) : Int) := by simp
  have h2 : s / 2 ^ i < 65536 := Nat.lt_of_le_of_lt (Nat.div_le_self _ _) hs
  have h3 := bits_and_u16_nat (s / 2 ^ i) 1 h2 (by omega)
  rw [e, show (1 : Int) = ((1 : Nat) : Int) from rfl, h3, Nat.and_one_is_mod, Nat.testBit_eq_decide_div_mod_eq, Bool.eq_iff_iff]
  simp
  omega), rfl⟩
theorem has_is (b : Bool) (s i : Nat) (h : Hid (s.testBit i = b)) (hs : s < 65536) (hi : i < 16) (w : World) : Calls Tryd.prog 74 #[.int .u16 s, .int .i64 i] w fun e w' => e = .returned (.bool b) ∧ w' = w :=
 (has_calls s i hs hi w).mono fun e w' ⟨he, hw⟩ => ⟨by rw [he, h.out], hw⟩
theorem everything_calls (n : Nat) (hn : n ≤ 15) (w : World) : Calls Tryd.prog 91 #[.int .i64 n] w fun e w' => e = .returned (.int .u16 ((2 ^ n - 1 : Nat) : Int)) ∧ w' = w := by
 go_enter Tryd.func91, Tryd.ntmps91
 go_wp2
 go_ret
 exact ⟨ret_int (by obtain ⟨e, h⟩ := pow_u16 n (by omega); rw [e, wrap_u16']; have h0 := Nat.two_pow_pos n; generalize (2 : Nat) ^ n = q at h h0; omega), rfl⟩
end Go.Proofs.YtpmfghbjkampkaaDoor
