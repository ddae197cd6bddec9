/- Plain functions of tasks: what the program's functions compute. No program in sight. -/
import Derived.Test.YtpmfghbjkampkaaDoorSmall
namespace Go.Proofs.YtpmfghbjkampkaaDoor
set_option linter.unusedVariables false
set_option linter.unusedSimpArgs false
open Bits
def setOfL (n : Int) : List Int → Int → Nat → Option Nat
 | [], _, s => some s
 | i :: r, last, s => if last + 1 ≤ i ∧ i ≤ n - 1 then setOfL n r i (s ||| 2 ^ i.toNat) else none
theorem setOfL_cons (n i : Int) (r : List Int) (last : Int) (s : Nat) : setOfL n (i :: r) last s = if last + 1 ≤ i ∧ i ≤ n - 1 then setOfL n r i (s ||| 2 ^ i.toNat) else none := rfl
def setOfN (l : List Int) (n : Nat) : Option Nat := setOfL n l (-1) 0
theorem or_lt_pow {a b n : Nat} (ha : a < 2 ^ n) (hb : b < 2 ^ n) : a ||| b < 2 ^ n := Nat.or_lt_two_pow ha hb
theorem setOfL_lt (n : Nat) : ∀ (l : List Int) (last : Int) (s r : Nat), -1 ≤ last → s < 2 ^ n → setOfL n l last s = some r → r < 2 ^ n
 | [], _, s, r, _, hs, h => by simp [setOfL] at h; omega
 | i :: l, last, s, r, hl, hs, h => by
  rw [setOfL_cons] at h
  split at h
  ·
   rename_i hi
   refine setOfL_lt n l i _ r (by omega) (or_lt_pow hs ?_) h
   exact Nat.pow_lt_pow_right (by omega) (by omega)
  ·
   cases h
theorem setOfN_lt {l : List Int} {n s : Nat} (h : setOfN l n = some s) : s < 2 ^ n := setOfL_lt n l _ _ _ (by omega) (Nat.two_pow_pos n) h
theorem pow_le_u16 {n : Nat} (h : n ≤ 16) : 2 ^ n ≤ 65536 := show 2 ^ n ≤ 2 ^ 16 from Nat.pow_le_pow_right (by omega) h
def taskOk (t : Tk) : Bool := inB t.f0 1 20 && inB t.f2 0 2 && inB t.f3 1 4
def needsL (n : Nat) : List Tk → Option (List Nat)
 | [] => some []
 | t :: r => match setOfN t.f1 n with
  | none => none
  | some s => if taskOk t then (needsL n r).map (s :: ·) else none
def needsN (g : List Tk) : Option (List Nat) := if 8 < g.length then none else needsL g.length g
theorem needsL_cons (n : Nat) (t : Tk) (r : List Tk) : needsL n (t :: r) = match setOfN t.f1 n with
  | none => none
  | some s => if taskOk t then (needsL n r).map (s :: ·) else none := rfl
theorem needsL_bad {n : Nat} {t : Tk} {r : List Tk} (h : setOfN t.f1 n = none ∨ taskOk t = false) : needsL n (t :: r) = none := by
 rw [needsL_cons]
 rcases h with h | h
 ·
  rw [h]
 ·
  cases setOfN t.f1 n <;> simp [h]
theorem needsL_good {n s : Nat} {t : Tk} {r : List Tk} (h : setOfN t.f1 n = some s) (h' : taskOk t = true) : needsL n (t :: r) = (needsL n r).map (s :: ·) := by
 rw [needsL_cons, h]; simp [h']
theorem taskOk_false {t : Tk} (h : inB t.f0 1 20 = false ∨ inB t.f2 0 2 = false ∨ inB t.f3 1 4 = false) : taskOk t = false := by
 unfold taskOk
 rcases h with h | h | h <;> rw [h] <;> simp
theorem taskOk_true {t : Tk} (h0 : inB t.f0 1 20 = true) (h1 : inB t.f2 0 2 = true) (h2 : inB t.f3 1 4 = true) : taskOk t = true := by
 unfold taskOk; rw [h0, h1, h2]; rfl
theorem needsL_step {n : Nat} {acc : List Nat} {o : Option (List Nat)} {t : Tk} {r : List Tk} {s : Nat} (h : o = (needsL n (t :: r)).map (acc ++ ·)) (h1 : setOfN t.f1 n = some s) (h2 : taskOk t = true) : o = (needsL n r).map ((acc ++ [s]) ++ ·) := by
 rw [h, needsL_good h1 h2]
 cases needsL n r <;> simp
def diff (a b : Nat) : Nat := a ^^^ (a &&& b)
theorem diff_bit (a b i : Nat) : (diff a b).testBit i = (a.testBit i && !b.testBit i) := by
 unfold diff; rw [Nat.testBit_xor, Nat.testBit_and]; cases a.testBit i <;> cases b.testBit i <;> rfl
theorem diff_lt {a b n : Nat} (h : a < 2 ^ n) : diff a b < 2 ^ n := Nat.xor_lt_two_pow h (Nat.lt_of_le_of_lt Nat.and_le_left h)
theorem diff_zero {a b : Nat} : diff a b = 0 ↔ ∀ i, a.testBit i = true → b.testBit i = true := by
 constructor
 ·
  intro h i ha
  have := diff_bit a b i
  rw [h] at this
  simp [ha] at this
  exact this
 ·
  intro h
  apply Nat.eq_of_testBit_eq
  intro i
  rw [diff_bit, Nat.zero_testBit]
  cases ha : a.testBit i
  ·
   rfl
  ·
   rw [h i ha]; rfl
theorem or_bit (a i j : Nat) : (a ||| 2 ^ i).testBit j = (a.testBit j || decide (i = j)) := by rw [Nat.testBit_or, Nat.testBit_two_pow]
def isReady (ns : List Nat) (done i : Nat) : Bool := !done.testBit i && decide (diff (ns.getD i 0) done = 0)
def firstReady (ns : List Nat) (done : Nat) : Option Nat := (List.range ns.length).find? (isReady ns done)
def ordStep (ns : List Nat) (p : List Nat × Nat) : List Nat × Nat := match firstReady ns p.2 with
 | some i => (p.1 ++ [i], p.2 ||| 2 ^ i)
 | none => p
def ordN (ns : List Nat) : Nat → List Nat × Nat
 | 0 => ([], 0)
 | k + 1 => ordStep ns (ordN ns k)
theorem find_range {n k : Nat} {p : Nat → Bool} (h : k < n) (hp : p k = true) (hlow : ∀ j, j < k → p j = false) : (List.range n).find? p = some k := by
 rw [List.find?_range_eq_some]
 refine ⟨hp, List.mem_range.2 h, fun j hj => by simp [hlow j hj]⟩
theorem firstReady_some {ns : List Nat} {done k : Nat} (h : k < ns.length) (hp : isReady ns done k = true) (hlow : ∀ j, j < k → isReady ns done j = false) : firstReady ns done = some k := find_range h hp hlow
theorem firstReady_none {ns : List Nat} {done : Nat} (hlow : ∀ j, j < ns.length → isReady ns done j = false) : firstReady ns done = none := by
 unfold firstReady
 rw [List.find?_eq_none]
 intro j hj
 rw [hlow j (List.mem_range.1 hj)]; simp
theorem firstReady_spec {ns : List Nat} {done k : Nat} (h : firstReady ns done = some k) : k < ns.length ∧ isReady ns done k = true := by
 unfold firstReady at h
 exact ⟨List.mem_range.1 (List.mem_of_find?_eq_some h), List.find?_some h⟩
theorem ordN_lt (ns : List Nat) : ∀ k, (ordN ns k).2 < 2 ^ ns.length ∧ (∀ i ∈ (ordN ns k).1, i < ns.length) ∧ (ordN ns k).1.length ≤ k
 | 0 => ⟨Nat.two_pow_pos _, by intro i h; simp [ordN] at h, Nat.le_refl _⟩
 | k + 1 => by
  obtain ⟨h1, h2, h3⟩ := ordN_lt ns k
  show (ordStep ns (ordN ns k)).2 < _ ∧ (∀ i ∈ (ordStep ns (ordN ns k)).1, _) ∧ (ordStep ns (ordN ns k)).1.length ≤ _
  unfold ordStep
  cases hf : firstReady ns (ordN ns k).2 with
  | none => exact ⟨h1, h2, Nat.le_succ_of_le h3⟩
  | some i =>
   obtain ⟨hi, _⟩ := firstReady_spec hf
   refine ⟨or_lt_pow h1 (Nat.pow_lt_pow_right (by omega) hi), fun j hj => ?_, by simp; omega⟩
   rcases List.mem_append.1 hj with hj | hj
   ·
    exact h2 j hj
   ·
    rw [List.mem_singleton.1 hj]; exact hi
theorem needsL_length {n : Nat} : ∀ {g : List Tk} {ns : List Nat}, needsL n g = some ns → ns.length = g.length ∧ ∀ s ∈ ns, s < 2 ^ n
 | [], ns, h => by simp [needsL] at h; subst h; simp
 | t :: r, ns, h => by
  rw [needsL_cons] at h
  cases hs : setOfN t.f1 n with
  | none => rw [hs] at h; cases h
  | some s =>
   rw [hs] at h
   simp only at h
   split at h
   ·
    obtain ⟨ms, hm, rfl⟩ := Option.map_eq_some_iff.1 h
    obtain ⟨h1, h2⟩ := needsL_length hm
    refine ⟨by simp [h1], fun q hq => ?_⟩
    rcases List.mem_cons.1 hq with rfl | hq
    ·
     exact setOfN_lt hs
    ·
     exact h2 q hq
   ·
    cases h
theorem needsN_some {g : List Tk} {ns : List Nat} (h : needsN g = some ns) : g.length ≤ 8 ∧ needsL g.length g = some ns := by
 unfold needsN at h
 split at h
 ·
  cases h
 ·
  exact ⟨by omega, h⟩
theorem needsN_length {g : List Tk} {ns : List Nat} (h : needsN g = some ns) : ns.length = g.length := (needsL_length (needsN_some h).2).1
theorem needsN_pow {g : List Tk} {ns : List Nat} (h : needsN g = some ns) (i : Nat) : ns.getD i 0 < 2 ^ g.length := by
 rw [List.getD_eq_getElem?_getD]
 cases hi : ns[i]? with
 | none => exact Nat.two_pow_pos _
 | some s => exact (needsL_length (needsN_some h).2).2 s (List.mem_of_getElem? hi)
theorem needsN_lt {g : List Tk} {ns : List Nat} (h : needsN g = some ns) (i : Nat) : ns.getD i 0 < 65536 :=
 Nat.lt_of_lt_of_le (needsN_pow h i) (pow_le_u16 (by have := (needsN_some h).1; omega))
theorem drop_cons {g : List Tk} {k : Nat} (h : k < g.length) : g.drop k = rdTk g k :: g.drop (k + 1) := by
 rw [List.drop_eq_getElem_cons h]; simp [rdTk, List.getD_eq_getElem?_getD, h]
end Go.Proofs.YtpmfghbjkampkaaDoor
