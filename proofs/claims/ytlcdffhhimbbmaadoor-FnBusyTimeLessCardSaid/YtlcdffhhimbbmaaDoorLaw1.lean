/- The plain law of logs: what the reference asks of an event is what the machine takes. -/
import Derived.Test.YtlcdffhhimbbmaaDoorValidLog
import Derived.Test.YtlcdffhhimbbmaaDoorSpec5
namespace Go.Proofs.YtlcdffhhimbbmaaDoor
set_option linter.unusedVariables false
set_option linter.unusedSimpArgs false
open Go.RowKit Go.Shelf Bits

theorem setOfL_bits (n : Int) : ∀ (l : List Int) (last : Int) (s r : Nat), -1 ≤ last → setOfL n l last s = some r → ∀ j, r.testBit j = (s.testBit j || decide ((j : Int) ∈ l))
  | [], last, s, r, _, h, j => by
    simp only [setOfL, Option.some.injEq] at h
    subst h
    simp
  | i :: l, last, s, r, hl, h, j => by
    rw [setOfL_cons] at h
    split at h
    · rename_i hc
      rw [setOfL_bits n l i _ r (by omega) h j, or_bit]
      have e : decide (i.toNat = j) = decide ((j : Int) = i) := decide_eq_decide.2 (by omega)
      rw [e]
      simp only [List.mem_cons, Bool.or_assoc, Bool.decide_or]
    · cases h
theorem setOfN_bits {l : List Int} {n s : Nat} (h : setOfN l n = some s) (j : Nat) : s.testBit j = decide ((j : Int) ∈ l) := by
  rw [setOfL_bits n l _ _ _ (by omega) h j]
  simp
theorem setOfL_mem (n : Int) : ∀ (l : List Int) (last : Int) (s r : Nat), -1 ≤ last → setOfL n l last s = some r → ∀ x ∈ l, 0 ≤ x ∧ x ≤ n - 1
  | [], _, _, _, _, _, x, hx => by cases hx
  | i :: l, last, s, r, hl, h, x, hx => by
    rw [setOfL_cons] at h
    split at h
    · rename_i hc
      rcases List.mem_cons.1 hx with rfl | hx
      · omega
      · exact setOfL_mem n l i _ r (by omega) h x hx
    · cases h

/-- The machine tells what the events so far tell. -/
structure Link (g : List Tk) (pre : List Ev) (M : Mach) : Prop where
  b : ∀ i, M.b.testBit i = decide (0 ≤ begunL (i : Nat) pre (-1))
  q : ∀ i, M.b.testBit i = true → M.bg i = begunL (i : Nat) pre (-1)
  o : ∀ i, M.o.testBit i = decide (((i : Nat) : Int) ∈ overL pre)

theorem Link.zero (g : List Tk) : Link g [] Mach.zero := ⟨fun i => by simp [Mach.zero, begunL], fun i h => by simp [Mach.zero] at h, fun i => by simp [Mach.zero, overL]⟩

theorem mayBegin_fit {g : List Tk} {ns : List Nat} {pre : List Ev} {M : Mach} {e : Ev} (hg : graphN g = some ns) (hL : Link g pre M) (he : evIn g e = true) (h2 : e.f2 = false) : mayBegin ns M e = evFit g pre e := by
  obtain ⟨h0, h1, hi⟩ := evIn_num he
  have hs := ((graphN_all hg).2.2 e.i hi).2
  unfold mayBegin evFit
  rw [h2]
  simp only [Bool.false_eq_true, if_false]
  rw [h1, Int.toNat_natCast, hL.b]
  congr 1
  · by_cases hx : 0 ≤ begunL ((e.i : Nat) : Int) pre (-1)
    · rw [decide_eq_true hx, decide_eq_false (by omega)]; rfl
    · rw [decide_eq_false hx, decide_eq_true (by omega)]; rfl
  · unfold allDoneB
    rw [Bool.eq_iff_iff, decide_eq_true_iff, diff_zero, List.all_eq_true]
    constructor
    · intro h x hx
      obtain ⟨hx0, hx1⟩ := setOfL_mem _ _ _ _ _ (by omega) hs x hx
      have hxe : x = ((x.toNat : Nat) : Int) := by omega
      have := h x.toNat (by rw [setOfN_bits hs]; exact decide_eq_true (by rw [← hxe]; exact hx))
      rw [hL.o, ← hxe] at this
      exact this
    · intro h j hj
      rw [setOfN_bits hs] at hj
      rw [hL.o]
      exact h _ (of_decide_eq_true hj)
theorem mayEnd_fit {g : List Tk} {pre : List Ev} {M : Mach} {e : Ev} (hL : Link g pre M) (he : evIn g e = true) (h2 : e.f2 = true) : mayEnd g M e = evFit g pre e := by
  obtain ⟨h0, h1, hi⟩ := evIn_num he
  unfold mayEnd evFit
  rw [h2]
  simp only [if_true]
  rw [h1, Int.toNat_natCast]
  cases hb : M.b.testBit e.i
  · have := hL.b e.i
    rw [hb] at this
    rw [← this]; rfl
  · have h3 := hL.b e.i
    rw [hb] at h3
    rw [← h3, hL.o, hL.q e.i hb, Bool.true_and, Bool.true_and]
theorem step_fit {g : List Tk} {ns : List Nat} {pre : List Ev} {M : Mach} {e : Ev} (hg : graphN g = some ns) (hL : Link g pre M) : (stepM g ns M e).isSome = (evIn g e && evFit g pre e) := by
  unfold stepM
  cases he : evIn g e
  · rfl
  · rw [if_neg (by simp), Bool.true_and]
    cases h2 : e.f2
    · rw [if_pos rfl, ← mayBegin_fit hg hL he h2]
      cases mayBegin ns M e <;> rfl
    · rw [if_neg (by simp), ← mayEnd_fit hL he h2]
      cases mayEnd g M e <;> rfl
theorem Link.step {g : List Tk} {ns : List Nat} {pre : List Ev} {M M' : Mach} {e : Ev} (hL : Link g pre M) (h : stepM g ns M e = some M') : Link g (pre ++ [e]) M' := by
  obtain ⟨he, ⟨h2, hm, rfl⟩ | ⟨h2, hm, rfl⟩⟩ := stepM_some h
  · obtain ⟨h0, h1, hi⟩ := evIn_num he
    have h00 := (inB_true.1 h0).1
    refine ⟨fun i => ?_, fun i hb => ?_, fun i => ?_⟩
    · rw [begunL_snoc, h2]
      simp only [Mach.begin, or_bit, Bool.false_eq_true, if_false]
      by_cases hie : e.f1 = (i : Int)
      · rw [if_pos hie, decide_eq_true (show e.i = i by omega), Bool.or_true, decide_eq_true h00]
      · rw [if_neg hie, decide_eq_false (show ¬ e.i = i by omega), Bool.or_false, hL.b]
    · rw [begunL_snoc, h2]
      simp only [Mach.begin, or_bit, Bool.false_eq_true, if_false] at hb ⊢
      by_cases hie : e.f1 = (i : Int)
      · rw [if_pos hie, if_pos (show i = e.i by omega)]
      · rw [if_neg hie, if_neg (show ¬ i = e.i by omega)]
        rw [decide_eq_false (show ¬ e.i = i by omega), Bool.or_false] at hb
        exact hL.q i hb
    · rw [overL_snoc, h2]
      simp only [Mach.begin, Bool.false_eq_true, if_false]
      exact hL.o i
  · obtain ⟨h0, h1, hi⟩ := evIn_num he
    refine ⟨fun i => ?_, fun i hb => ?_, fun i => ?_⟩
    · rw [begunL_snoc, h2]
      simp only [Mach.finish, if_true]
      exact hL.b i
    · rw [begunL_snoc, h2]
      simp only [Mach.finish, if_true] at hb ⊢
      exact hL.q i hb
    · rw [overL_snoc, h2]
      simp only [Mach.finish, or_bit, if_true, List.mem_append, List.mem_singleton, Bool.decide_or]
      rw [hL.o]
      congr 1
      exact decide_eq_decide.2 (by omega)
end Go.Proofs.YtlcdffhhimbbmaaDoor
