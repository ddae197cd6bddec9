/- Plain law: small sets of task numbers kept as the bits of a 16-bit number. No program in sight. -/
import Derived.Lib.TrailingZeros
namespace Go.Proofs.YtpmfghbjkampkaaDoor.Bits
set_option linter.unusedVariables false
set_option linter.unusedSimpArgs false
def elems (s : Nat) : List Nat := (List.range 16).filter s.testBit
theorem elems_lt {s x : Nat} (h : x ∈ elems s) : x < 16 := by
 simp [elems] at h; exact h.1
theorem elems_bit {s x : Nat} (h : x ∈ elems s) : s.testBit x = true := by
 simp [elems] at h; exact h.2
theorem mem_elems {s x : Nat} : x ∈ elems s ↔ x < 16 ∧ s.testBit x = true := by simp [elems]
theorem elems_length (s : Nat) : (elems s).length ≤ 16 := by
 have := List.length_filter_le s.testBit (List.range 16); simpa [elems] using this
theorem elems_zero : elems 0 = [] := by simp [elems]
theorem elems_below {s n x : Nat} (hs : s < 2 ^ n) (h : x ∈ elems s) : x < n := by
 have h1 := Nat.ge_two_pow_of_testBit (elems_bit h)
 exact (Nat.pow_lt_pow_iff_right (by omega)).1 (Nat.lt_of_le_of_lt h1 hs)
theorem filter_first (p q : Nat → Bool) (n k : Nat) (hk : k < n) (hp : p k = true) (hlow : ∀ j, j < k → p j = false) (hq : ∀ j, j < n → q j = (p j && decide (j ≠ k))) :
  (List.range n).filter p = k :: (List.range n).filter q := by
 have e : List.range n = List.range k ++ k :: List.range' (k + 1) (n - k - 1) := by
  rw [List.range_eq_range', List.range_eq_range']
  have h2 : k :: List.range' (k + 1) (n - k - 1) = List.range' k (n - k) := by
   conv => rhs; rw [show n - k = (n - k - 1) + 1 from by omega, List.range'_succ]
  rw [h2]
  have := List.range'_append (s := 0) (m := k) (n := n - k) (step := 1)
  simp only [Nat.zero_add, Nat.one_mul] at this
  rw [this]; congr 1; omega
 rw [e, List.filter_append, List.filter_append]
 have a1 : (List.range k).filter p = [] := by
  rw [List.filter_eq_nil_iff]; intro j hj; rw [hlow j (List.mem_range.1 hj)]; simp
 have a2 : (List.range k).filter q = [] := by
  rw [List.filter_eq_nil_iff]; intro j hj
  have := List.mem_range.1 hj
  rw [hq j (by omega), hlow j this]; simp
 rw [a1, a2, List.filter_cons, List.filter_cons, hp, hq k hk]
 simp only [List.nil_append, ne_eq, not_true_eq_false, decide_false, Bool.and_false, if_true, Bool.false_eq_true, if_false]
 congr 1
 apply List.filter_congr
 intro j hj
 have := List.mem_range'_1.1 hj
 rw [hq j (by omega)]
 have : j ≠ k := by omega
 simp [this]
theorem low_form (x : Nat) (h0 : x ≠ 0) (h : x < 65536) : ∃ k m, Lib.ctz 16 x = k ∧ x = 2 ^ k * (2 * m + 1) ∧ k < 16 := by
 obtain ⟨m, hm, hk⟩ := Lib.ctzFrom_spec 16 x (by omega) h
 exact ⟨_, m, by simp [Lib.ctz, h0], hm, hk⟩
theorem bit_form (k m i : Nat) : (2 ^ k * m).testBit i = (decide (k ≤ i) && m.testBit (i - k)) := by
 rw [Nat.mul_comm, Nat.testBit_mul_two_pow]
theorem drop_low (k m : Nat) : (2 ^ k * (2 * m + 1)) &&& (2 ^ k * (2 * m + 1) - 1) = 2 ^ k * (2 * m) := by
 apply Nat.eq_of_testBit_eq
 intro i
 have e : 2 ^ k * (2 * m + 1) - 1 = 2 ^ k * (2 * m) + (2 ^ k - 1) := by
  have : 0 < 2 ^ k := Nat.two_pow_pos k
  rw [Nat.mul_add, Nat.mul_one]; omega
 rw [Nat.testBit_and, bit_form, e, Nat.two_pow_add_eq_or_of_lt (by have := Nat.two_pow_pos k; omega), Nat.testBit_or, bit_form, Nat.testBit_two_pow_sub_one]
 by_cases hik : k ≤ i
 ·
  obtain ⟨j, rfl⟩ : ∃ j, i = k + j := ⟨i - k, by omega⟩
  simp only [Nat.le_add_right, decide_true, Bool.true_and, Nat.add_sub_cancel_left]
  have hd : decide (k + j < k) = false := by simp
  rw [hd, Bool.or_false]
  cases j with
  | zero => simp
  | succ j =>
   have e1 : (2 * m + 1) / 2 = m := by omega
   have e2 : (2 * m) / 2 = m := by omega
   rw [Nat.testBit_succ, Nat.testBit_succ, e1, e2, Bool.and_self]
 ·
  simp [hik]
theorem elems_low (x : Nat) (h0 : x ≠ 0) (h : x < 65536) : elems x = Lib.ctz 16 x :: elems (x &&& (x - 1)) := by
 obtain ⟨k, m, hc, hx, hk⟩ := low_form x h0 h
 rw [hc]
 have hd := drop_low k m
 rw [← hx] at hd
 unfold elems
 apply filter_first _ _ 16 k hk
 ·
  rw [hx, bit_form]; simp
 ·
  intro j hj; rw [hx, bit_form, decide_eq_false (by omega : ¬ k ≤ j), Bool.false_and]
 ·
  intro j _
  rw [hd, bit_form, hx, bit_form]
  by_cases hik : k ≤ j
  ·
   obtain ⟨i, rfl⟩ : ∃ i, j = k + i := ⟨j - k, by omega⟩
   simp only [Nat.le_add_right, decide_true, Bool.true_and, Nat.add_sub_cancel_left]
   cases i with
   | zero => simp
   | succ i =>
    have e1 : (2 * m + 1) / 2 = m := by omega
    have e2 : (2 * m) / 2 = m := by omega
    have e3 : decide (k + (i + 1) ≠ k) = true := decide_eq_true (by omega)
    rw [Nat.testBit_succ, Nat.testBit_succ, e1, e2, e3, Bool.and_true]
  ·
   simp [hik]
theorem low_lt (x : Nat) (h : x < 65536) : x &&& (x - 1) < 65536 := Nat.lt_of_le_of_lt Nat.and_le_left h
theorem low_less (x : Nat) (h0 : x ≠ 0) (h : x < 65536) : x &&& (x - 1) < x := by
 obtain ⟨k, m, _, hx, _⟩ := low_form x h0 h
 have hd := drop_low k m
 rw [← hx] at hd
 rw [hd, hx, Nat.mul_add]
 have := Nat.two_pow_pos k
 omega
end Go.Proofs.YtpmfghbjkampkaaDoor.Bits
